/-
  The program's framer: a text is fed.
-/
import Derived.Test.YtopebociobgmhaaRn
namespace Go.Proofs.Ytopebociobgmhaa
open Go.RowKit

abbrev fBlank : Nat := 35
set_option maxRecDepth 100000 in
theorem blankT (n : Int) : fnT E0 0 fBlank [.int .u8 n] [] =
  bif n == (32 : Int) then T.done (Ret.mk (V.bool true) [] [])
  else bif n == (9 : Int) then T.done (Ret.mk (V.bool true) [] []) else bif n == (10 : Int) then T.done (Ret.mk (V.bool true) [] []) else T.done (Ret.mk (V.bool (n == (13 : Int))) [] []) := by kernel_rfl
theorem blank_ok (n : Int) : FnOK Try.prog fBlank [.int .u8 n] [] ⟨.bool (Fr.blank n), [], []⟩ := by
  refine fnOK_TL (E := E0) follows named (blankT n) (by simp) ?_
  simp only [WP_cond, T.WP, All, decide_eq_true_eq, decide_eq_false_iff_not, and_true, beq_iff_eq, beq_eq_false_iff_ne, ne_eq]
  unfold Fr.blank
  repeat' with_reducible first
    | intro h
    | apply And.intro
  all_goals first
    | (simp [*, RetLe]; done)
    | (exfalso; simp_all; done)

noncomputable def resIF : ResT := fun f vs hp => match vs, hp with
  | [.int _ n], [] => bif Nat.beq f fBlank then some ⟨Fr.blank n, fun y => ⟨.bool y, [], []⟩⟩ else none
  | [.ptr 0 0, .int _ n, .bool l], [some ([.str buf, .int _ d, .bool q, .bool k, .bool c], _)] => bif Nat.beq f fInText then some ⟨Fr.inText ⟨d, q, k, c⟩ n l, fun y => ⟨.bool y.2, [gB buf y.1], [0]⟩⟩ else none
  | _, _ => none
noncomputable def EIF : Env := { P := Try.prog, vw := vwA, res := resIF }
/-- States of the loop: the text's beginning is an own slice of bytes, or nil. -/
def stG (b0 t : List UInt8) (g : Fr.G) (buf : List UInt8) (L : List (List UInt8)) (i : Int) (bo bb : Bool) : St := ⟨mkTm 86 [(0, .ptr 0 0), (1, .str t), (5, .sl 1 0 L.length bo), (6, .sl 2 0 buf.length bb), (7, .int .i64 i)], [gB b0 g, strB L, bytB buf], [0]⟩
def stN (b0 t : List UInt8) (g : Fr.G) (L : List (List UInt8)) (i : Int) (bo : Bool) : St := ⟨mkTm 86 [(0, .ptr 0 0), (1, .str t), (5, .sl 1 0 L.length bo), (6, .dsl 0 true []), (7, .int .i64 i)], [gB b0 g, strB L], [0]⟩
def nfI : Ex → Kp := fun ex => match ex with
  | .normal => { keep := [0, 1, 5, 6, 7] }
  | _ => { keep := [0, 1, 5, 6] }

--FOLD gB strB bytB
set_option maxRecDepth 100000 in
theorem ifeedG (b0 t : List UInt8) (g : Fr.G) (buf : List UInt8) (L : List (List UInt8)) (i : Int) (bo bb : Bool) : bodyT EIF 1 nfI (lp Try.prog fIFeed 0) (stG b0 t g buf L i bo bb) =
  bif decide (i < (↑(List.length t) : Int)) then
    bif !Fr.G.closed g then
      T.need [(0 : Int) ≤ i ∧ i < (↑(List.length t) : Int)]
        (bif Fr.G.depth g == (0 : Int) then
          T.bind (Fr.blank (↑(UInt8.toNat (List.getD t (Int.toNat i) (0 : UInt8))) : Int)) fun y0 =>
            T.need [FnOK (Env.P EIF) 35 [V.int IntKind.u8 (↑(UInt8.toNat (List.getD t (Int.toNat i) (0 : UInt8))) : Int)] [] (Ret.mk (V.bool y0) [] [])]
              (bif y0 then
                T.done
                  (Ex.normal,
                    St.mk
                      (mkTm 86
                        [(0, V.ptr 0 0), (1, V.str t), (5, V.sl 1 0 (List.length L) bo), (6, V.sl 2 0 (List.length buf) bb),
                          (7, V.int IntKind.i64 (IntKind.wrap IntKind.i64 (i + (1 : Int))))])
                      [gB b0 g, strB L, bytB buf] [0])
              else
                bif Fr.G.depth g == (0 : Int) then
                  bif (↑(UInt8.toNat (List.getD t (Int.toNat i) (0 : UInt8))) : Int) != (123 : Int) then
                    bif (↑(UInt8.toNat (List.getD t (Int.toNat i) (0 : UInt8))) : Int) != (91 : Int) then
                      T.done
                        (Ex.normal,
                          St.mk
                            (mkTm 86
                              [(0, V.ptr 0 0), (1, V.str t), (5, V.sl 1 0 (List.length L) bo), (6, V.sl 2 0 (List.length buf) bb),
                                (7, V.int IntKind.i64 (IntKind.wrap IntKind.i64 (i + (1 : Int))))])
                            [some ([V.str b0, V.int IntKind.i64 (Fr.G.depth g), V.bool (Fr.G.quote g), V.bool (Fr.G.skip g), V.bool true], 29), strB L, bytB buf] [0])
                    else
                      T.need
                        [0 = 0, List.length (encs encByte buf) = List.length buf * 1, List.length buf + 1 ≤ 9223372036854775807,
                          (List.length buf + 1) * 1 ≤ 140737488355328]
                        (T.bind
                          (Fr.inText (Fr.G.mk (Fr.G.depth g) (Fr.G.quote g) (Fr.G.skip g) (Fr.G.closed g)) (↑(UInt8.toNat (List.getD t (Int.toNat i) (0 : UInt8))) : Int)
                            (decide ((↑(List.length buf + 1) : Int) > (3000 : Int))))
                          fun y1 =>
                          T.need
                            [FnOK (Env.P EIF) 36
                                [V.ptr 0 0, V.int IntKind.u8 (↑(UInt8.toNat (List.getD t (Int.toNat i) (0 : UInt8))) : Int), V.bool (decide ((↑(List.length buf + 1) : Int) > (3000 : Int)))]
                                [gB b0 g] (Ret.mk (V.bool (Prod.snd y1)) [gB b0 (Prod.fst y1)] [0])]
                            (bif Prod.snd y1 then
                              T.need
                                [encs encByte buf = byts (decL encByte (encs encByte buf)),
                                  (0 : Int) ≤ (↑(UInt8.toNat (List.getD t (Int.toNat i) (0 : UInt8))) : Int) ∧ (↑(UInt8.toNat (List.getD t (Int.toNat i) (0 : UInt8))) : Int) < (256 : Int), 0 = 0,
                                  List.length (decL encByte (encs encByte buf) ++ [UInt8.ofNat (Int.toNat (↑(UInt8.toNat (List.getD t (Int.toNat i) (0 : UInt8))) : Int))]) = List.length buf + 1]
                                (T.need
                                  [0 = 0, List.length (encs encStr L) = List.length L * 1, List.length L + 1 ≤ 9223372036854775807,
                                    (List.length L + 1) * 16 ≤ 140737488355328]
                                  (T.done
                                    (Ex.normal,
                                      St.mk
                                        (mkTm 86
                                          [(0, V.ptr 0 0), (1, V.str t), (5, V.sl 1 0 (List.length L + 1) false), (6, V.dsl 0 true []),
                                            (7, V.int IntKind.i64 (IntKind.wrap IntKind.i64 (i + (1 : Int))))])
                                        [gB b0 (Prod.fst y1),
                                          some ([V.sld (encs encStr L ++ [V.str (decL encByte (encs encByte buf) ++ [UInt8.ofNat (Int.toNat (↑(UInt8.toNat (List.getD t (Int.toNat i) (0 : UInt8))) : Int))])])], 9)]
                                        [0])))
                            else
                              T.done
                                (Ex.normal,
                                  St.mk
                                    (mkTm 86
                                      [(0, V.ptr 0 0), (1, V.str t), (5, V.sl 1 0 (List.length L) bo),
                                        (6, V.sl 2 0 (List.length buf + 1) false), (7, V.int IntKind.i64 (IntKind.wrap IntKind.i64 (i + (1 : Int))))])
                                    [gB b0 (Prod.fst y1), strB L, some ([V.sld (encs encByte buf ++ [V.int IntKind.u8 (↑(UInt8.toNat (List.getD t (Int.toNat i) (0 : UInt8))) : Int)])], 5)] [0])))
                  else
                    T.need
                      [0 = 0, List.length (encs encByte buf) = List.length buf * 1, List.length buf + 1 ≤ 9223372036854775807,
                        (List.length buf + 1) * 1 ≤ 140737488355328]
                      (T.bind
                        (Fr.inText (Fr.G.mk (Fr.G.depth g) (Fr.G.quote g) (Fr.G.skip g) (Fr.G.closed g)) (↑(UInt8.toNat (List.getD t (Int.toNat i) (0 : UInt8))) : Int)
                          (decide ((↑(List.length buf + 1) : Int) > (3000 : Int))))
                        fun y2 =>
                        T.need
                          [FnOK (Env.P EIF) 36
                              [V.ptr 0 0, V.int IntKind.u8 (↑(UInt8.toNat (List.getD t (Int.toNat i) (0 : UInt8))) : Int), V.bool (decide ((↑(List.length buf + 1) : Int) > (3000 : Int)))] [gB b0 g]
                              (Ret.mk (V.bool (Prod.snd y2)) [gB b0 (Prod.fst y2)] [0])]
                          (bif Prod.snd y2 then
                            T.need
                              [encs encByte buf = byts (decL encByte (encs encByte buf)),
                                (0 : Int) ≤ (↑(UInt8.toNat (List.getD t (Int.toNat i) (0 : UInt8))) : Int) ∧ (↑(UInt8.toNat (List.getD t (Int.toNat i) (0 : UInt8))) : Int) < (256 : Int), 0 = 0,
                                List.length (decL encByte (encs encByte buf) ++ [UInt8.ofNat (Int.toNat (↑(UInt8.toNat (List.getD t (Int.toNat i) (0 : UInt8))) : Int))]) = List.length buf + 1]
                              (T.need
                                [0 = 0, List.length (encs encStr L) = List.length L * 1, List.length L + 1 ≤ 9223372036854775807,
                                  (List.length L + 1) * 16 ≤ 140737488355328]
                                (T.done
                                  (Ex.normal,
                                    St.mk
                                      (mkTm 86
                                        [(0, V.ptr 0 0), (1, V.str t), (5, V.sl 1 0 (List.length L + 1) false), (6, V.dsl 0 true []),
                                          (7, V.int IntKind.i64 (IntKind.wrap IntKind.i64 (i + (1 : Int))))])
                                      [gB b0 (Prod.fst y2),
                                        some ([V.sld (encs encStr L ++ [V.str (decL encByte (encs encByte buf) ++ [UInt8.ofNat (Int.toNat (↑(UInt8.toNat (List.getD t (Int.toNat i) (0 : UInt8))) : Int))])])], 9)]
                                      [0])))
                          else
                            T.done
                              (Ex.normal,
                                St.mk
                                  (mkTm 86
                                    [(0, V.ptr 0 0), (1, V.str t), (5, V.sl 1 0 (List.length L) bo),
                                      (6, V.sl 2 0 (List.length buf + 1) false), (7, V.int IntKind.i64 (IntKind.wrap IntKind.i64 (i + (1 : Int))))])
                                  [gB b0 (Prod.fst y2), strB L, some ([V.sld (encs encByte buf ++ [V.int IntKind.u8 (↑(UInt8.toNat (List.getD t (Int.toNat i) (0 : UInt8))) : Int)])], 5)] [0])))
                else
                  T.need
                    [0 = 0, List.length (encs encByte buf) = List.length buf * 1, List.length buf + 1 ≤ 9223372036854775807,
                      (List.length buf + 1) * 1 ≤ 140737488355328]
                    (T.bind
                      (Fr.inText (Fr.G.mk (Fr.G.depth g) (Fr.G.quote g) (Fr.G.skip g) (Fr.G.closed g)) (↑(UInt8.toNat (List.getD t (Int.toNat i) (0 : UInt8))) : Int)
                        (decide ((↑(List.length buf + 1) : Int) > (3000 : Int))))
                      fun y3 =>
                      T.need
                        [FnOK (Env.P EIF) 36
                            [V.ptr 0 0, V.int IntKind.u8 (↑(UInt8.toNat (List.getD t (Int.toNat i) (0 : UInt8))) : Int), V.bool (decide ((↑(List.length buf + 1) : Int) > (3000 : Int)))] [gB b0 g]
                            (Ret.mk (V.bool (Prod.snd y3)) [gB b0 (Prod.fst y3)] [0])]
                        (bif Prod.snd y3 then
                          T.need
                            [encs encByte buf = byts (decL encByte (encs encByte buf)),
                              (0 : Int) ≤ (↑(UInt8.toNat (List.getD t (Int.toNat i) (0 : UInt8))) : Int) ∧ (↑(UInt8.toNat (List.getD t (Int.toNat i) (0 : UInt8))) : Int) < (256 : Int), 0 = 0,
                              List.length (decL encByte (encs encByte buf) ++ [UInt8.ofNat (Int.toNat (↑(UInt8.toNat (List.getD t (Int.toNat i) (0 : UInt8))) : Int))]) = List.length buf + 1]
                            (T.need
                              [0 = 0, List.length (encs encStr L) = List.length L * 1, List.length L + 1 ≤ 9223372036854775807,
                                (List.length L + 1) * 16 ≤ 140737488355328]
                              (T.done
                                (Ex.normal,
                                  St.mk
                                    (mkTm 86
                                      [(0, V.ptr 0 0), (1, V.str t), (5, V.sl 1 0 (List.length L + 1) false), (6, V.dsl 0 true []),
                                        (7, V.int IntKind.i64 (IntKind.wrap IntKind.i64 (i + (1 : Int))))])
                                    [gB b0 (Prod.fst y3),
                                      some ([V.sld (encs encStr L ++ [V.str (decL encByte (encs encByte buf) ++ [UInt8.ofNat (Int.toNat (↑(UInt8.toNat (List.getD t (Int.toNat i) (0 : UInt8))) : Int))])])], 9)]
                                    [0])))
                        else
                          T.done
                            (Ex.normal,
                              St.mk
                                (mkTm 86
                                  [(0, V.ptr 0 0), (1, V.str t), (5, V.sl 1 0 (List.length L) bo),
                                    (6, V.sl 2 0 (List.length buf + 1) false), (7, V.int IntKind.i64 (IntKind.wrap IntKind.i64 (i + (1 : Int))))])
                                [gB b0 (Prod.fst y3), strB L, some ([V.sld (encs encByte buf ++ [V.int IntKind.u8 (↑(UInt8.toNat (List.getD t (Int.toNat i) (0 : UInt8))) : Int)])], 5)] [0]))))
        else
          bif Fr.G.depth g == (0 : Int) then
            bif (↑(UInt8.toNat (List.getD t (Int.toNat i) (0 : UInt8))) : Int) != (123 : Int) then
              bif (↑(UInt8.toNat (List.getD t (Int.toNat i) (0 : UInt8))) : Int) != (91 : Int) then
                T.done
                  (Ex.normal,
                    St.mk
                      (mkTm 86
                        [(0, V.ptr 0 0), (1, V.str t), (5, V.sl 1 0 (List.length L) bo), (6, V.sl 2 0 (List.length buf) bb),
                          (7, V.int IntKind.i64 (IntKind.wrap IntKind.i64 (i + (1 : Int))))])
                      [some ([V.str b0, V.int IntKind.i64 (Fr.G.depth g), V.bool (Fr.G.quote g), V.bool (Fr.G.skip g), V.bool true], 29), strB L, bytB buf] [0])
              else
                T.need
                  [0 = 0, List.length (encs encByte buf) = List.length buf * 1, List.length buf + 1 ≤ 9223372036854775807,
                    (List.length buf + 1) * 1 ≤ 140737488355328]
                  (T.bind
                    (Fr.inText (Fr.G.mk (Fr.G.depth g) (Fr.G.quote g) (Fr.G.skip g) (Fr.G.closed g)) (↑(UInt8.toNat (List.getD t (Int.toNat i) (0 : UInt8))) : Int)
                      (decide ((↑(List.length buf + 1) : Int) > (3000 : Int))))
                    fun y4 =>
                    T.need
                      [FnOK (Env.P EIF) 36
                          [V.ptr 0 0, V.int IntKind.u8 (↑(UInt8.toNat (List.getD t (Int.toNat i) (0 : UInt8))) : Int), V.bool (decide ((↑(List.length buf + 1) : Int) > (3000 : Int)))] [gB b0 g]
                          (Ret.mk (V.bool (Prod.snd y4)) [gB b0 (Prod.fst y4)] [0])]
                      (bif Prod.snd y4 then
                        T.need
                          [encs encByte buf = byts (decL encByte (encs encByte buf)),
                            (0 : Int) ≤ (↑(UInt8.toNat (List.getD t (Int.toNat i) (0 : UInt8))) : Int) ∧ (↑(UInt8.toNat (List.getD t (Int.toNat i) (0 : UInt8))) : Int) < (256 : Int), 0 = 0,
                            List.length (decL encByte (encs encByte buf) ++ [UInt8.ofNat (Int.toNat (↑(UInt8.toNat (List.getD t (Int.toNat i) (0 : UInt8))) : Int))]) = List.length buf + 1]
                          (T.need
                            [0 = 0, List.length (encs encStr L) = List.length L * 1, List.length L + 1 ≤ 9223372036854775807,
                              (List.length L + 1) * 16 ≤ 140737488355328]
                            (T.done
                              (Ex.normal,
                                St.mk
                                  (mkTm 86
                                    [(0, V.ptr 0 0), (1, V.str t), (5, V.sl 1 0 (List.length L + 1) false), (6, V.dsl 0 true []),
                                      (7, V.int IntKind.i64 (IntKind.wrap IntKind.i64 (i + (1 : Int))))])
                                  [gB b0 (Prod.fst y4),
                                    some ([V.sld (encs encStr L ++ [V.str (decL encByte (encs encByte buf) ++ [UInt8.ofNat (Int.toNat (↑(UInt8.toNat (List.getD t (Int.toNat i) (0 : UInt8))) : Int))])])], 9)]
                                  [0])))
                      else
                        T.done
                          (Ex.normal,
                            St.mk
                              (mkTm 86
                                [(0, V.ptr 0 0), (1, V.str t), (5, V.sl 1 0 (List.length L) bo),
                                  (6, V.sl 2 0 (List.length buf + 1) false), (7, V.int IntKind.i64 (IntKind.wrap IntKind.i64 (i + (1 : Int))))])
                              [gB b0 (Prod.fst y4), strB L, some ([V.sld (encs encByte buf ++ [V.int IntKind.u8 (↑(UInt8.toNat (List.getD t (Int.toNat i) (0 : UInt8))) : Int)])], 5)] [0])))
            else
              T.need
                [0 = 0, List.length (encs encByte buf) = List.length buf * 1, List.length buf + 1 ≤ 9223372036854775807,
                  (List.length buf + 1) * 1 ≤ 140737488355328]
                (T.bind
                  (Fr.inText (Fr.G.mk (Fr.G.depth g) (Fr.G.quote g) (Fr.G.skip g) (Fr.G.closed g)) (↑(UInt8.toNat (List.getD t (Int.toNat i) (0 : UInt8))) : Int)
                    (decide ((↑(List.length buf + 1) : Int) > (3000 : Int))))
                  fun y5 =>
                  T.need
                    [FnOK (Env.P EIF) 36
                        [V.ptr 0 0, V.int IntKind.u8 (↑(UInt8.toNat (List.getD t (Int.toNat i) (0 : UInt8))) : Int), V.bool (decide ((↑(List.length buf + 1) : Int) > (3000 : Int)))] [gB b0 g]
                        (Ret.mk (V.bool (Prod.snd y5)) [gB b0 (Prod.fst y5)] [0])]
                    (bif Prod.snd y5 then
                      T.need
                        [encs encByte buf = byts (decL encByte (encs encByte buf)),
                          (0 : Int) ≤ (↑(UInt8.toNat (List.getD t (Int.toNat i) (0 : UInt8))) : Int) ∧ (↑(UInt8.toNat (List.getD t (Int.toNat i) (0 : UInt8))) : Int) < (256 : Int), 0 = 0,
                          List.length (decL encByte (encs encByte buf) ++ [UInt8.ofNat (Int.toNat (↑(UInt8.toNat (List.getD t (Int.toNat i) (0 : UInt8))) : Int))]) = List.length buf + 1]
                        (T.need
                          [0 = 0, List.length (encs encStr L) = List.length L * 1, List.length L + 1 ≤ 9223372036854775807,
                            (List.length L + 1) * 16 ≤ 140737488355328]
                          (T.done
                            (Ex.normal,
                              St.mk
                                (mkTm 86
                                  [(0, V.ptr 0 0), (1, V.str t), (5, V.sl 1 0 (List.length L + 1) false), (6, V.dsl 0 true []),
                                    (7, V.int IntKind.i64 (IntKind.wrap IntKind.i64 (i + (1 : Int))))])
                                [gB b0 (Prod.fst y5),
                                  some ([V.sld (encs encStr L ++ [V.str (decL encByte (encs encByte buf) ++ [UInt8.ofNat (Int.toNat (↑(UInt8.toNat (List.getD t (Int.toNat i) (0 : UInt8))) : Int))])])], 9)]
                                [0])))
                    else
                      T.done
                        (Ex.normal,
                          St.mk
                            (mkTm 86
                              [(0, V.ptr 0 0), (1, V.str t), (5, V.sl 1 0 (List.length L) bo),
                                (6, V.sl 2 0 (List.length buf + 1) false), (7, V.int IntKind.i64 (IntKind.wrap IntKind.i64 (i + (1 : Int))))])
                            [gB b0 (Prod.fst y5), strB L, some ([V.sld (encs encByte buf ++ [V.int IntKind.u8 (↑(UInt8.toNat (List.getD t (Int.toNat i) (0 : UInt8))) : Int)])], 5)] [0])))
          else
            T.need
              [0 = 0, List.length (encs encByte buf) = List.length buf * 1, List.length buf + 1 ≤ 9223372036854775807,
                (List.length buf + 1) * 1 ≤ 140737488355328]
              (T.bind
                (Fr.inText (Fr.G.mk (Fr.G.depth g) (Fr.G.quote g) (Fr.G.skip g) (Fr.G.closed g)) (↑(UInt8.toNat (List.getD t (Int.toNat i) (0 : UInt8))) : Int)
                  (decide ((↑(List.length buf + 1) : Int) > (3000 : Int))))
                fun y6 =>
                T.need
                  [FnOK (Env.P EIF) 36
                      [V.ptr 0 0, V.int IntKind.u8 (↑(UInt8.toNat (List.getD t (Int.toNat i) (0 : UInt8))) : Int), V.bool (decide ((↑(List.length buf + 1) : Int) > (3000 : Int)))] [gB b0 g]
                      (Ret.mk (V.bool (Prod.snd y6)) [gB b0 (Prod.fst y6)] [0])]
                  (bif Prod.snd y6 then
                    T.need
                      [encs encByte buf = byts (decL encByte (encs encByte buf)),
                        (0 : Int) ≤ (↑(UInt8.toNat (List.getD t (Int.toNat i) (0 : UInt8))) : Int) ∧ (↑(UInt8.toNat (List.getD t (Int.toNat i) (0 : UInt8))) : Int) < (256 : Int), 0 = 0,
                        List.length (decL encByte (encs encByte buf) ++ [UInt8.ofNat (Int.toNat (↑(UInt8.toNat (List.getD t (Int.toNat i) (0 : UInt8))) : Int))]) = List.length buf + 1]
                      (T.need
                        [0 = 0, List.length (encs encStr L) = List.length L * 1, List.length L + 1 ≤ 9223372036854775807,
                          (List.length L + 1) * 16 ≤ 140737488355328]
                        (T.done
                          (Ex.normal,
                            St.mk
                              (mkTm 86
                                [(0, V.ptr 0 0), (1, V.str t), (5, V.sl 1 0 (List.length L + 1) false), (6, V.dsl 0 true []),
                                  (7, V.int IntKind.i64 (IntKind.wrap IntKind.i64 (i + (1 : Int))))])
                              [gB b0 (Prod.fst y6),
                                some ([V.sld (encs encStr L ++ [V.str (decL encByte (encs encByte buf) ++ [UInt8.ofNat (Int.toNat (↑(UInt8.toNat (List.getD t (Int.toNat i) (0 : UInt8))) : Int))])])], 9)]
                              [0])))
                  else
                    T.done
                      (Ex.normal,
                        St.mk
                          (mkTm 86
                            [(0, V.ptr 0 0), (1, V.str t), (5, V.sl 1 0 (List.length L) bo),
                              (6, V.sl 2 0 (List.length buf + 1) false), (7, V.int IntKind.i64 (IntKind.wrap IntKind.i64 (i + (1 : Int))))])
                          [gB b0 (Prod.fst y6), strB L, some ([V.sld (encs encByte buf ++ [V.int IntKind.u8 (↑(UInt8.toNat (List.getD t (Int.toNat i) (0 : UInt8))) : Int)])], 5)] [0]))))
    else
      T.done
        (Ex.exit 0,
          St.mk (mkTm 86 [(0, V.ptr 0 0), (1, V.str t), (5, V.sl 1 0 (List.length L) bo), (6, V.sl 2 0 (List.length buf) bb)])
            [gB b0 g, strB L, bytB buf] [0])
  else
    T.done
      (Ex.exit 0,
        St.mk (mkTm 86 [(0, V.ptr 0 0), (1, V.str t), (5, V.sl 1 0 (List.length L) bo), (6, V.sl 2 0 (List.length buf) bb)])
          [gB b0 g, strB L, bytB buf] [0]) := by kernel_rfl
set_option maxRecDepth 100000 in
theorem ifeedN (b0 t : List UInt8) (g : Fr.G) (L : List (List UInt8)) (i : Int) (bo : Bool) : bodyT EIF 1 nfI (lp Try.prog fIFeed 0) (stN b0 t g L i bo) =
  bif decide (i < (↑(List.length t) : Int)) then
    bif !Fr.G.closed g then
      T.need [(0 : Int) ≤ i ∧ i < (↑(List.length t) : Int)]
        (bif Fr.G.depth g == (0 : Int) then
          T.bind (Fr.blank (↑(UInt8.toNat (List.getD t (Int.toNat i) (0 : UInt8))) : Int)) fun y0 =>
            T.need [FnOK (Env.P EIF) 35 [V.int IntKind.u8 (↑(UInt8.toNat (List.getD t (Int.toNat i) (0 : UInt8))) : Int)] [] (Ret.mk (V.bool y0) [] [])]
              (bif y0 then
                T.done
                  (Ex.normal,
                    St.mk
                      (mkTm 86
                        [(0, V.ptr 0 0), (1, V.str t), (5, V.sl 1 0 (List.length L) bo), (6, V.dsl 0 true []),
                          (7, V.int IntKind.i64 (IntKind.wrap IntKind.i64 (i + (1 : Int))))])
                      [gB b0 g, strB L] [0])
              else
                bif Fr.G.depth g == (0 : Int) then
                  bif (↑(UInt8.toNat (List.getD t (Int.toNat i) (0 : UInt8))) : Int) != (123 : Int) then
                    bif (↑(UInt8.toNat (List.getD t (Int.toNat i) (0 : UInt8))) : Int) != (91 : Int) then
                      T.done
                        (Ex.normal,
                          St.mk
                            (mkTm 86
                              [(0, V.ptr 0 0), (1, V.str t), (5, V.sl 1 0 (List.length L) bo), (6, V.dsl 0 true []),
                                (7, V.int IntKind.i64 (IntKind.wrap IntKind.i64 (i + (1 : Int))))])
                            [some ([V.str b0, V.int IntKind.i64 (Fr.G.depth g), V.bool (Fr.G.quote g), V.bool (Fr.G.skip g), V.bool true], 29), strB L] [0])
                    else
                      T.need [true = true, 0 = 0, 1 ≤ 9223372036854775807, 1 ≤ 140737488355328]
                        (T.bind (Fr.inText (Fr.G.mk (Fr.G.depth g) (Fr.G.quote g) (Fr.G.skip g) (Fr.G.closed g)) (↑(UInt8.toNat (List.getD t (Int.toNat i) (0 : UInt8))) : Int) false) fun y1 =>
                          T.need
                            [FnOK (Env.P EIF) 36 [V.ptr 0 0, V.int IntKind.u8 (↑(UInt8.toNat (List.getD t (Int.toNat i) (0 : UInt8))) : Int), V.bool false] [gB b0 g]
                                (Ret.mk (V.bool (Prod.snd y1)) [gB b0 (Prod.fst y1)] [0])]
                            (bif Prod.snd y1 then
                              T.need
                                [[] = byts (decL encByte []), (0 : Int) ≤ (↑(UInt8.toNat (List.getD t (Int.toNat i) (0 : UInt8))) : Int) ∧ (↑(UInt8.toNat (List.getD t (Int.toNat i) (0 : UInt8))) : Int) < (256 : Int),
                                  0 = 0, List.length (decL encByte [] ++ [UInt8.ofNat (Int.toNat (↑(UInt8.toNat (List.getD t (Int.toNat i) (0 : UInt8))) : Int))]) = 1]
                                (T.need
                                  [0 = 0, List.length (encs encStr L) = List.length L * 1, List.length L + 1 ≤ 9223372036854775807,
                                    (List.length L + 1) * 16 ≤ 140737488355328]
                                  (T.done
                                    (Ex.normal,
                                      St.mk
                                        (mkTm 86
                                          [(0, V.ptr 0 0), (1, V.str t), (5, V.sl 1 0 (List.length L + 1) false), (6, V.dsl 0 true []),
                                            (7, V.int IntKind.i64 (IntKind.wrap IntKind.i64 (i + (1 : Int))))])
                                        [gB b0 (Prod.fst y1),
                                          some ([V.sld (encs encStr L ++ [V.str (decL encByte [] ++ [UInt8.ofNat (Int.toNat (↑(UInt8.toNat (List.getD t (Int.toNat i) (0 : UInt8))) : Int))])])], 9)]
                                        [0])))
                            else
                              T.done
                                (Ex.normal,
                                  St.mk
                                    (mkTm 86
                                      [(0, V.ptr 0 0), (1, V.str t), (5, V.sl 1 0 (List.length L) bo), (6, V.sl 2 0 1 false),
                                        (7, V.int IntKind.i64 (IntKind.wrap IntKind.i64 (i + (1 : Int))))])
                                    [gB b0 (Prod.fst y1), strB L, some ([V.sld [V.int IntKind.u8 (↑(UInt8.toNat (List.getD t (Int.toNat i) (0 : UInt8))) : Int)]], 5)] [0])))
                  else
                    T.need [true = true, 0 = 0, 1 ≤ 9223372036854775807, 1 ≤ 140737488355328]
                      (T.bind (Fr.inText (Fr.G.mk (Fr.G.depth g) (Fr.G.quote g) (Fr.G.skip g) (Fr.G.closed g)) (↑(UInt8.toNat (List.getD t (Int.toNat i) (0 : UInt8))) : Int) false) fun y2 =>
                        T.need
                          [FnOK (Env.P EIF) 36 [V.ptr 0 0, V.int IntKind.u8 (↑(UInt8.toNat (List.getD t (Int.toNat i) (0 : UInt8))) : Int), V.bool false] [gB b0 g]
                              (Ret.mk (V.bool (Prod.snd y2)) [gB b0 (Prod.fst y2)] [0])]
                          (bif Prod.snd y2 then
                            T.need
                              [[] = byts (decL encByte []), (0 : Int) ≤ (↑(UInt8.toNat (List.getD t (Int.toNat i) (0 : UInt8))) : Int) ∧ (↑(UInt8.toNat (List.getD t (Int.toNat i) (0 : UInt8))) : Int) < (256 : Int),
                                0 = 0, List.length (decL encByte [] ++ [UInt8.ofNat (Int.toNat (↑(UInt8.toNat (List.getD t (Int.toNat i) (0 : UInt8))) : Int))]) = 1]
                              (T.need
                                [0 = 0, List.length (encs encStr L) = List.length L * 1, List.length L + 1 ≤ 9223372036854775807,
                                  (List.length L + 1) * 16 ≤ 140737488355328]
                                (T.done
                                  (Ex.normal,
                                    St.mk
                                      (mkTm 86
                                        [(0, V.ptr 0 0), (1, V.str t), (5, V.sl 1 0 (List.length L + 1) false), (6, V.dsl 0 true []),
                                          (7, V.int IntKind.i64 (IntKind.wrap IntKind.i64 (i + (1 : Int))))])
                                      [gB b0 (Prod.fst y2),
                                        some ([V.sld (encs encStr L ++ [V.str (decL encByte [] ++ [UInt8.ofNat (Int.toNat (↑(UInt8.toNat (List.getD t (Int.toNat i) (0 : UInt8))) : Int))])])], 9)]
                                      [0])))
                          else
                            T.done
                              (Ex.normal,
                                St.mk
                                  (mkTm 86
                                    [(0, V.ptr 0 0), (1, V.str t), (5, V.sl 1 0 (List.length L) bo), (6, V.sl 2 0 1 false),
                                      (7, V.int IntKind.i64 (IntKind.wrap IntKind.i64 (i + (1 : Int))))])
                                  [gB b0 (Prod.fst y2), strB L, some ([V.sld [V.int IntKind.u8 (↑(UInt8.toNat (List.getD t (Int.toNat i) (0 : UInt8))) : Int)]], 5)] [0])))
                else
                  T.need [true = true, 0 = 0, 1 ≤ 9223372036854775807, 1 ≤ 140737488355328]
                    (T.bind (Fr.inText (Fr.G.mk (Fr.G.depth g) (Fr.G.quote g) (Fr.G.skip g) (Fr.G.closed g)) (↑(UInt8.toNat (List.getD t (Int.toNat i) (0 : UInt8))) : Int) false) fun y3 =>
                      T.need
                        [FnOK (Env.P EIF) 36 [V.ptr 0 0, V.int IntKind.u8 (↑(UInt8.toNat (List.getD t (Int.toNat i) (0 : UInt8))) : Int), V.bool false] [gB b0 g]
                            (Ret.mk (V.bool (Prod.snd y3)) [gB b0 (Prod.fst y3)] [0])]
                        (bif Prod.snd y3 then
                          T.need
                            [[] = byts (decL encByte []), (0 : Int) ≤ (↑(UInt8.toNat (List.getD t (Int.toNat i) (0 : UInt8))) : Int) ∧ (↑(UInt8.toNat (List.getD t (Int.toNat i) (0 : UInt8))) : Int) < (256 : Int),
                              0 = 0, List.length (decL encByte [] ++ [UInt8.ofNat (Int.toNat (↑(UInt8.toNat (List.getD t (Int.toNat i) (0 : UInt8))) : Int))]) = 1]
                            (T.need
                              [0 = 0, List.length (encs encStr L) = List.length L * 1, List.length L + 1 ≤ 9223372036854775807,
                                (List.length L + 1) * 16 ≤ 140737488355328]
                              (T.done
                                (Ex.normal,
                                  St.mk
                                    (mkTm 86
                                      [(0, V.ptr 0 0), (1, V.str t), (5, V.sl 1 0 (List.length L + 1) false), (6, V.dsl 0 true []),
                                        (7, V.int IntKind.i64 (IntKind.wrap IntKind.i64 (i + (1 : Int))))])
                                    [gB b0 (Prod.fst y3), some ([V.sld (encs encStr L ++ [V.str (decL encByte [] ++ [UInt8.ofNat (Int.toNat (↑(UInt8.toNat (List.getD t (Int.toNat i) (0 : UInt8))) : Int))])])], 9)]
                                    [0])))
                        else
                          T.done
                            (Ex.normal,
                              St.mk
                                (mkTm 86
                                  [(0, V.ptr 0 0), (1, V.str t), (5, V.sl 1 0 (List.length L) bo), (6, V.sl 2 0 1 false),
                                    (7, V.int IntKind.i64 (IntKind.wrap IntKind.i64 (i + (1 : Int))))])
                                [gB b0 (Prod.fst y3), strB L, some ([V.sld [V.int IntKind.u8 (↑(UInt8.toNat (List.getD t (Int.toNat i) (0 : UInt8))) : Int)]], 5)] [0]))))
        else
          bif Fr.G.depth g == (0 : Int) then
            bif (↑(UInt8.toNat (List.getD t (Int.toNat i) (0 : UInt8))) : Int) != (123 : Int) then
              bif (↑(UInt8.toNat (List.getD t (Int.toNat i) (0 : UInt8))) : Int) != (91 : Int) then
                T.done
                  (Ex.normal,
                    St.mk
                      (mkTm 86
                        [(0, V.ptr 0 0), (1, V.str t), (5, V.sl 1 0 (List.length L) bo), (6, V.dsl 0 true []),
                          (7, V.int IntKind.i64 (IntKind.wrap IntKind.i64 (i + (1 : Int))))])
                      [some ([V.str b0, V.int IntKind.i64 (Fr.G.depth g), V.bool (Fr.G.quote g), V.bool (Fr.G.skip g), V.bool true], 29), strB L] [0])
              else
                T.need [true = true, 0 = 0, 1 ≤ 9223372036854775807, 1 ≤ 140737488355328]
                  (T.bind (Fr.inText (Fr.G.mk (Fr.G.depth g) (Fr.G.quote g) (Fr.G.skip g) (Fr.G.closed g)) (↑(UInt8.toNat (List.getD t (Int.toNat i) (0 : UInt8))) : Int) false) fun y4 =>
                    T.need
                      [FnOK (Env.P EIF) 36 [V.ptr 0 0, V.int IntKind.u8 (↑(UInt8.toNat (List.getD t (Int.toNat i) (0 : UInt8))) : Int), V.bool false] [gB b0 g]
                          (Ret.mk (V.bool (Prod.snd y4)) [gB b0 (Prod.fst y4)] [0])]
                      (bif Prod.snd y4 then
                        T.need
                          [[] = byts (decL encByte []), (0 : Int) ≤ (↑(UInt8.toNat (List.getD t (Int.toNat i) (0 : UInt8))) : Int) ∧ (↑(UInt8.toNat (List.getD t (Int.toNat i) (0 : UInt8))) : Int) < (256 : Int),
                            0 = 0, List.length (decL encByte [] ++ [UInt8.ofNat (Int.toNat (↑(UInt8.toNat (List.getD t (Int.toNat i) (0 : UInt8))) : Int))]) = 1]
                          (T.need
                            [0 = 0, List.length (encs encStr L) = List.length L * 1, List.length L + 1 ≤ 9223372036854775807,
                              (List.length L + 1) * 16 ≤ 140737488355328]
                            (T.done
                              (Ex.normal,
                                St.mk
                                  (mkTm 86
                                    [(0, V.ptr 0 0), (1, V.str t), (5, V.sl 1 0 (List.length L + 1) false), (6, V.dsl 0 true []),
                                      (7, V.int IntKind.i64 (IntKind.wrap IntKind.i64 (i + (1 : Int))))])
                                  [gB b0 (Prod.fst y4), some ([V.sld (encs encStr L ++ [V.str (decL encByte [] ++ [UInt8.ofNat (Int.toNat (↑(UInt8.toNat (List.getD t (Int.toNat i) (0 : UInt8))) : Int))])])], 9)]
                                  [0])))
                      else
                        T.done
                          (Ex.normal,
                            St.mk
                              (mkTm 86
                                [(0, V.ptr 0 0), (1, V.str t), (5, V.sl 1 0 (List.length L) bo), (6, V.sl 2 0 1 false),
                                  (7, V.int IntKind.i64 (IntKind.wrap IntKind.i64 (i + (1 : Int))))])
                              [gB b0 (Prod.fst y4), strB L, some ([V.sld [V.int IntKind.u8 (↑(UInt8.toNat (List.getD t (Int.toNat i) (0 : UInt8))) : Int)]], 5)] [0])))
            else
              T.need [true = true, 0 = 0, 1 ≤ 9223372036854775807, 1 ≤ 140737488355328]
                (T.bind (Fr.inText (Fr.G.mk (Fr.G.depth g) (Fr.G.quote g) (Fr.G.skip g) (Fr.G.closed g)) (↑(UInt8.toNat (List.getD t (Int.toNat i) (0 : UInt8))) : Int) false) fun y5 =>
                  T.need
                    [FnOK (Env.P EIF) 36 [V.ptr 0 0, V.int IntKind.u8 (↑(UInt8.toNat (List.getD t (Int.toNat i) (0 : UInt8))) : Int), V.bool false] [gB b0 g]
                        (Ret.mk (V.bool (Prod.snd y5)) [gB b0 (Prod.fst y5)] [0])]
                    (bif Prod.snd y5 then
                      T.need
                        [[] = byts (decL encByte []), (0 : Int) ≤ (↑(UInt8.toNat (List.getD t (Int.toNat i) (0 : UInt8))) : Int) ∧ (↑(UInt8.toNat (List.getD t (Int.toNat i) (0 : UInt8))) : Int) < (256 : Int),
                          0 = 0, List.length (decL encByte [] ++ [UInt8.ofNat (Int.toNat (↑(UInt8.toNat (List.getD t (Int.toNat i) (0 : UInt8))) : Int))]) = 1]
                        (T.need
                          [0 = 0, List.length (encs encStr L) = List.length L * 1, List.length L + 1 ≤ 9223372036854775807,
                            (List.length L + 1) * 16 ≤ 140737488355328]
                          (T.done
                            (Ex.normal,
                              St.mk
                                (mkTm 86
                                  [(0, V.ptr 0 0), (1, V.str t), (5, V.sl 1 0 (List.length L + 1) false), (6, V.dsl 0 true []),
                                    (7, V.int IntKind.i64 (IntKind.wrap IntKind.i64 (i + (1 : Int))))])
                                [gB b0 (Prod.fst y5), some ([V.sld (encs encStr L ++ [V.str (decL encByte [] ++ [UInt8.ofNat (Int.toNat (↑(UInt8.toNat (List.getD t (Int.toNat i) (0 : UInt8))) : Int))])])], 9)]
                                [0])))
                    else
                      T.done
                        (Ex.normal,
                          St.mk
                            (mkTm 86
                              [(0, V.ptr 0 0), (1, V.str t), (5, V.sl 1 0 (List.length L) bo), (6, V.sl 2 0 1 false),
                                (7, V.int IntKind.i64 (IntKind.wrap IntKind.i64 (i + (1 : Int))))])
                            [gB b0 (Prod.fst y5), strB L, some ([V.sld [V.int IntKind.u8 (↑(UInt8.toNat (List.getD t (Int.toNat i) (0 : UInt8))) : Int)]], 5)] [0])))
          else
            T.need [true = true, 0 = 0, 1 ≤ 9223372036854775807, 1 ≤ 140737488355328]
              (T.bind (Fr.inText (Fr.G.mk (Fr.G.depth g) (Fr.G.quote g) (Fr.G.skip g) (Fr.G.closed g)) (↑(UInt8.toNat (List.getD t (Int.toNat i) (0 : UInt8))) : Int) false) fun y6 =>
                T.need
                  [FnOK (Env.P EIF) 36 [V.ptr 0 0, V.int IntKind.u8 (↑(UInt8.toNat (List.getD t (Int.toNat i) (0 : UInt8))) : Int), V.bool false] [gB b0 g]
                      (Ret.mk (V.bool (Prod.snd y6)) [gB b0 (Prod.fst y6)] [0])]
                  (bif Prod.snd y6 then
                    T.need
                      [[] = byts (decL encByte []), (0 : Int) ≤ (↑(UInt8.toNat (List.getD t (Int.toNat i) (0 : UInt8))) : Int) ∧ (↑(UInt8.toNat (List.getD t (Int.toNat i) (0 : UInt8))) : Int) < (256 : Int),
                        0 = 0, List.length (decL encByte [] ++ [UInt8.ofNat (Int.toNat (↑(UInt8.toNat (List.getD t (Int.toNat i) (0 : UInt8))) : Int))]) = 1]
                      (T.need
                        [0 = 0, List.length (encs encStr L) = List.length L * 1, List.length L + 1 ≤ 9223372036854775807,
                          (List.length L + 1) * 16 ≤ 140737488355328]
                        (T.done
                          (Ex.normal,
                            St.mk
                              (mkTm 86
                                [(0, V.ptr 0 0), (1, V.str t), (5, V.sl 1 0 (List.length L + 1) false), (6, V.dsl 0 true []),
                                  (7, V.int IntKind.i64 (IntKind.wrap IntKind.i64 (i + (1 : Int))))])
                              [gB b0 (Prod.fst y6), some ([V.sld (encs encStr L ++ [V.str (decL encByte [] ++ [UInt8.ofNat (Int.toNat (↑(UInt8.toNat (List.getD t (Int.toNat i) (0 : UInt8))) : Int))])])], 9)]
                              [0])))
                  else
                    T.done
                      (Ex.normal,
                        St.mk
                          (mkTm 86
                            [(0, V.ptr 0 0), (1, V.str t), (5, V.sl 1 0 (List.length L) bo), (6, V.sl 2 0 1 false),
                              (7, V.int IntKind.i64 (IntKind.wrap IntKind.i64 (i + (1 : Int))))])
                          [gB b0 (Prod.fst y6), strB L, some ([V.sld [V.int IntKind.u8 (↑(UInt8.toNat (List.getD t (Int.toNat i) (0 : UInt8))) : Int)]], 5)] [0]))))
    else
      T.done
        (Ex.exit 0,
          St.mk (mkTm 86 [(0, V.ptr 0 0), (1, V.str t), (5, V.sl 1 0 (List.length L) bo), (6, V.dsl 0 true [])]) [gB b0 g, strB L]
            [0])
  else
    T.done
      (Ex.exit 0,
        St.mk (mkTm 86 [(0, V.ptr 0 0), (1, V.str t), (5, V.sl 1 0 (List.length L) bo), (6, V.dsl 0 true [])]) [gB b0 g, strB L] [0]) := by kernel_rfl

/-- The loop's state with its flags: is the beginning nil, are the two slices full. -/
structure IX where
  s : Fr.IS
  nb : Bool
  bo : Bool
  bb : Bool
def IX.step (x : IX) (b : UInt8) : IX :=
  if x.s.g.closed then x
  else if x.s.g.depth == 0 && Fr.blank b.toNat then ⟨Fr.iStep x.s b, x.nb, x.bo, x.bb⟩
  else if x.s.g.depth == 0 && (b.toNat : Int) != 123 && (b.toNat : Int) != 91 then ⟨Fr.iStep x.s b, x.nb, x.bo, x.bb⟩
  else if (Fr.inText x.s.g b.toNat (decide (3000 < (x.s.buf.length : Int) + 1))).2 then ⟨Fr.iStep x.s b, true, false, x.bb⟩
  else ⟨Fr.iStep x.s b, false, x.bo, false⟩
theorem IX.step_s (x : IX) (b : UInt8) : (x.step b).s = Fr.iStep x.s b := by
  unfold IX.step
  split
  · rename_i h; unfold Fr.iStep; rw [if_pos h]
  · split
    · rfl
    · split
      · rfl
      · split <;> rfl
def stI (b0 t : List UInt8) (x : IX) (i : Int) : St := match x.nb with
  | true => stN b0 t x.s.g x.s.out i x.bo
  | false => stG b0 t x.s.g x.s.buf x.s.out i x.bo x.bb

theorem stepG (b0 t : List UInt8) (g : Fr.G) (buf : List UInt8) (L : List (List UInt8)) (bo bb : Bool) (i : Nat) (hi : i < t.length) (ht : t.length ≤ 1048576) (hc : g.closed = false) (hd : -1000 ≤ g.depth ∧ g.depth ≤ 1000) (hb : buf.length ≤ 100000) (hL : L.length ≤ 2000000) {S : St}
    (hS : LoopTo Try.prog 1 (lp Try.prog fIFeed 0) (stI b0 t (IX.step ⟨⟨g, buf, L⟩, false, bo, bb⟩ (t.getD i 0)) ((i + 1 : Nat) : Int)) (.exit 0) S) : LoopTo Try.prog 1 (lp Try.prog fIFeed 0) (stG b0 t g buf L i bo bb) (.exit 0) S := by
  refine loopT (E := EIF) follows named (ifeedG b0 t g buf L i bo bb) ?_
  have hn : 0 ≤ ((t.getD i 0).toNat : Int) ∧ ((t.getD i 0).toNat : Int) < 256 := by
    have := (t.getD i 0).toNat_lt; omega
  have hlo := layByte.length buf
  have hlL := layStr.length L
  simp only [WP_cond, T.WP, All, decide_eq_true_eq, decide_eq_false_iff_not, and_true, beq_iff_eq, beq_eq_false_iff_ne, ne_eq, Int.toNat_natCast, UInt8.ofNat_toNat, wrap_succ (show i < 9223372036854775807 by omega), layByte.decL, byts_encs]
  generalize t.getD i 0 = b at *
  obtain ⟨d, q, k, c⟩ := g
  simp only at hc hd; subst hc; simp only
  have e1 : d = 0 → Fr.blank b.toNat = true → IX.step ⟨⟨⟨d, q, k, false⟩, buf, L⟩, false, bo, bb⟩ b = ⟨⟨⟨d, q, k, false⟩, buf, L⟩, false, bo, bb⟩ := by
    intro a1 a2; simp [IX.step, Fr.iStep, a1, a2]
  have e2 : d = 0 → Fr.blank b.toNat = false → ¬ (b.toNat : Int) = 123 → ¬ (b.toNat : Int) = 91 → IX.step ⟨⟨⟨d, q, k, false⟩, buf, L⟩, false, bo, bb⟩ b = ⟨⟨⟨d, q, k, true⟩, buf, L⟩, false, bo, bb⟩ := by
    intro a1 a2 a3 a4; simp [IX.step, Fr.iStep, a1, a2, a3, a4]
  have e3 : (d = 0 → Fr.blank b.toNat = false ∧ ((b.toNat : Int) = 123 ∨ (b.toNat : Int) = 91)) → (Fr.inText ⟨d, q, k, false⟩ b.toNat (decide (3000 < (buf.length : Int) + 1))).2 = true → IX.step ⟨⟨⟨d, q, k, false⟩, buf, L⟩, false, bo, bb⟩ b = ⟨⟨(Fr.inText ⟨d, q, k, false⟩ b.toNat (decide (3000 < (buf.length : Int) + 1))).1, [], L ++ [buf ++ [b]]⟩, true, false, bb⟩ := by
    intro a1 a2
    have n1 : ¬ (d = 0 ∧ Fr.blank b.toNat = true) := by rintro ⟨r, l⟩; simp [(a1 r).1] at l
    have n2 : ¬ ((d = 0 ∧ ¬ (b.toNat : Int) = 123) ∧ ¬ (b.toNat : Int) = 91) := by rintro ⟨⟨u, l⟩, m⟩; rcases (a1 u).2 with r | r <;> contradiction
    simp only [IX.step, Fr.iStep, Bool.false_eq_true, if_false, Bool.and_eq_true, beq_iff_eq, bne_iff_ne, ne_eq, if_neg n1, if_neg n2, a2, if_true]
  have e4 : (d = 0 → Fr.blank b.toNat = false ∧ ((b.toNat : Int) = 123 ∨ (b.toNat : Int) = 91)) → (Fr.inText ⟨d, q, k, false⟩ b.toNat (decide (3000 < (buf.length : Int) + 1))).2 = false → IX.step ⟨⟨⟨d, q, k, false⟩, buf, L⟩, false, bo, bb⟩ b = ⟨⟨(Fr.inText ⟨d, q, k, false⟩ b.toNat (decide (3000 < (buf.length : Int) + 1))).1, buf ++ [b], L⟩, false, bo, false⟩ := by
    intro a1 a2
    have n1 : ¬ (d = 0 ∧ Fr.blank b.toNat = true) := by rintro ⟨r, l⟩; simp [(a1 r).1] at l
    have n2 : ¬ ((d = 0 ∧ ¬ (b.toNat : Int) = 123) ∧ ¬ (b.toNat : Int) = 91) := by rintro ⟨⟨u, l⟩, m⟩; rcases (a1 u).2 with r | r <;> contradiction
    simp only [IX.step, Fr.iStep, Bool.false_eq_true, if_false, Bool.and_eq_true, beq_iff_eq, bne_iff_ne, ne_eq, if_neg n1, if_neg n2, a2]
  simp only [bne_iff_ne, ne_eq, bne_eq_false_iff_eq, Decidable.not_not, gt_iff_lt, Bool.not_false, true_implies, show ((buf.length + 1 : Nat) : Int) = (buf.length : Int) + 1 by omega]
  repeat' with_reducible first
    | intro h
    | apply And.intro
  all_goals first
    | omega
    | trivial
    | rfl
    | (simp only [List.length_append, List.length_cons, List.length_nil]; done)
    | (simp only [List.length_append, List.length_cons, List.length_nil]; omega)
    | (subst_vars; exact blank_ok _)
    | (subst_vars; exact inText_ok _ _ _ _ hn hd)
    | (subst_vars; rw [e1 (by first | rfl | assumption | (apply Eq.symm; assumption)) (by first | rfl | assumption | (apply Eq.symm; assumption))] at hS; exact hS)
    | (subst_vars; rw [e2 (by first | rfl | assumption | (apply Eq.symm; assumption)) (by first | rfl | assumption | (apply Eq.symm; assumption)) (by first | rfl | assumption | (apply Eq.symm; assumption)) (by first | rfl | assumption | (apply Eq.symm; assumption))] at hS; exact hS)
    | (subst_vars; rw [e3 (by intro z; first | exact absurd z (by assumption) | exact ⟨(by first | rfl | assumption | (apply Eq.symm; assumption)), by first | exact .inl (by assumption) | exact .inr (by assumption)⟩) (by first | rfl | assumption | (apply Eq.symm; assumption))] at hS; simp [stI, stN, gB, strB, bytB, encs_append, encs_one, encByte, encStr] at hS ⊢; exact hS)
    | (subst_vars; rw [e4 (by intro z; first | exact absurd z (by assumption) | exact ⟨(by first | rfl | assumption | (apply Eq.symm; assumption)), by first | exact .inl (by assumption) | exact .inr (by assumption)⟩) (by first | rfl | assumption | (apply Eq.symm; assumption))] at hS; simp [stI, stG, gB, strB, bytB, encs_append, encs_one, encByte, encStr] at hS ⊢; exact hS)
    | (exfalso; simp_all; done)
    | skip

end Go.Proofs.Ytopebociobgmhaa
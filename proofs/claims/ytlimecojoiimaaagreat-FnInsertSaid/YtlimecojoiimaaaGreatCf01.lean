/-
  FnInsert: the law, branch 01.
-/
import Derived.Test.YtlimecojoiimaaaGreatCe0
import Derived.Test.YtlimecojoiimaaaGreatCe1
import Derived.Test.YtlimecojoiimaaaGreatCe2
import Derived.Test.YtlimecojoiimaaaGreatCe3
import Derived.Test.YtlimecojoiimaaaGreatCe4
import Derived.Test.YtlimecojoiimaaaGreatCe5
import Derived.Test.YtlimecojoiimaaaGreatCd
namespace Go.Proofs.YtlimecojoiimaaaGreat
open Go.RowKit

def tab01 : List (Nat × Nat × Ret) := [(3, 0, rt0), (4, 1, rt1), (6, 1, ⟨.int .i64 0, [], []⟩), (10, 1, ⟨.int .i64 1, [], []⟩), (12, 1, rt11), (13, 4, rt12), (14, 9, rt4), (18, 24, rt5), (18, 33, rt6), (20, 8, rt13), (21, 5, rt8), (22, 5, rt9), (23, 54, rt10)]
noncomputable def EI01 : Env := { P := Tryz.prog, vw := vwN, res := fun _ _ _ => none, sp := spOf tab01 }
set_option maxRecDepth 100000 in
theorem law01T (l m : List UInt8) : fnT EI01 0 fLaw [sls encByte l, sls encByte m] [] =
  bif decide ((↑(List.length l) : Int) > (1048576 : Int)) then T.done (Ret.mk (V.bool true) [] [])
  else
    bif decide ((↑(List.length m) : Int) > (1048576 : Int)) then T.done (Ret.mk (V.bool true) [] [])
    else
      T.need
        [FnOK (Env.P EI01) 4 [] []
            (Ret.mk
              (V.agg
                [V.dsl 3 false
                    [V.str [110, 111, 116, 101],
                      V.dsl 2 false
                        [V.str [110, 97, 109, 101], V.int IntKind.i64 (2 : Int), V.int IntKind.i64 (1 : Int), V.int IntKind.i64 (1 : Int), V.int IntKind.i64 (0 : Int),
                          V.int IntKind.i64 (0 : Int), V.str [], V.bool false, V.str [97, 98, 111, 117, 116], V.int IntKind.i64 (4 : Int), V.int IntKind.i64 (0 : Int),
                          V.int IntKind.i64 (4 : Int), V.int IntKind.i64 (0 : Int), V.int IntKind.i64 (0 : Int), V.str [112, 111, 114, 116], V.bool false],
                      V.dsl 0 false [], V.bool true, V.str [112, 111, 114, 116],
                      V.dsl 3 false
                        [V.str [110, 97, 109, 101], V.int IntKind.i64 (2 : Int), V.int IntKind.i64 (1 : Int), V.int IntKind.i64 (1 : Int), V.int IntKind.i64 (0 : Int),
                          V.int IntKind.i64 (0 : Int), V.str [], V.bool false, V.str [116, 97, 103], V.int IntKind.i64 (1 : Int), V.int IntKind.i64 (0 : Int), V.int IntKind.i64 (1 : Int),
                          V.int IntKind.i64 (0 : Int), V.int IntKind.i64 (99 : Int), V.str [], V.bool false, V.str [117, 112], V.int IntKind.i64 (3 : Int), V.int IntKind.i64 (1 : Int),
                          V.int IntKind.i64 (1 : Int), V.int IntKind.i64 (0 : Int), V.int IntKind.i64 (0 : Int), V.str [], V.bool false],
                      V.dsl 1 false [V.int IntKind.i64 (0 : Int)], V.bool false, V.str [115, 119, 105, 116, 99, 104],
                      V.dsl 3 false
                        [V.str [110, 97, 109, 101], V.int IntKind.i64 (2 : Int), V.int IntKind.i64 (1 : Int), V.int IntKind.i64 (1 : Int), V.int IntKind.i64 (0 : Int),
                          V.int IntKind.i64 (0 : Int), V.str [], V.bool false, V.str [99, 111, 117, 110, 116], V.int IntKind.i64 (1 : Int), V.int IntKind.i64 (1 : Int),
                          V.int IntKind.i64 (1 : Int), V.int IntKind.i64 (-1000 : Int), V.int IntKind.i64 (1000 : Int), V.str [], V.bool false,
                          V.str [112, 111, 114, 116, 115], V.int IntKind.i64 (4 : Int), V.int IntKind.i64 (0 : Int), V.int IntKind.i64 (8 : Int),
                          V.int IntKind.i64 (0 : Int), V.int IntKind.i64 (0 : Int), V.str [112, 111, 114, 116], V.bool true],
                      V.dsl 1 false [V.int IntKind.i64 (0 : Int)], V.bool true]])
              [] [])]
        (T.need
          [FnOK (Env.P EI01) 5
              [V.agg
                  [V.dsl 3 false
                      [V.str [110, 111, 116, 101],
                        V.dsl 2 false
                          [V.str [110, 97, 109, 101], V.int IntKind.i64 (2 : Int), V.int IntKind.i64 (1 : Int), V.int IntKind.i64 (1 : Int), V.int IntKind.i64 (0 : Int),
                            V.int IntKind.i64 (0 : Int), V.str [], V.bool false, V.str [97, 98, 111, 117, 116], V.int IntKind.i64 (4 : Int), V.int IntKind.i64 (0 : Int),
                            V.int IntKind.i64 (4 : Int), V.int IntKind.i64 (0 : Int), V.int IntKind.i64 (0 : Int), V.str [112, 111, 114, 116], V.bool false],
                        V.dsl 0 false [], V.bool true, V.str [112, 111, 114, 116],
                        V.dsl 3 false
                          [V.str [110, 97, 109, 101], V.int IntKind.i64 (2 : Int), V.int IntKind.i64 (1 : Int), V.int IntKind.i64 (1 : Int), V.int IntKind.i64 (0 : Int),
                            V.int IntKind.i64 (0 : Int), V.str [], V.bool false, V.str [116, 97, 103], V.int IntKind.i64 (1 : Int), V.int IntKind.i64 (0 : Int), V.int IntKind.i64 (1 : Int),
                            V.int IntKind.i64 (0 : Int), V.int IntKind.i64 (99 : Int), V.str [], V.bool false, V.str [117, 112], V.int IntKind.i64 (3 : Int), V.int IntKind.i64 (1 : Int),
                            V.int IntKind.i64 (1 : Int), V.int IntKind.i64 (0 : Int), V.int IntKind.i64 (0 : Int), V.str [], V.bool false],
                        V.dsl 1 false [V.int IntKind.i64 (0 : Int)], V.bool false, V.str [115, 119, 105, 116, 99, 104],
                        V.dsl 3 false
                          [V.str [110, 97, 109, 101], V.int IntKind.i64 (2 : Int), V.int IntKind.i64 (1 : Int), V.int IntKind.i64 (1 : Int), V.int IntKind.i64 (0 : Int),
                            V.int IntKind.i64 (0 : Int), V.str [], V.bool false, V.str [99, 111, 117, 110, 116], V.int IntKind.i64 (1 : Int), V.int IntKind.i64 (1 : Int),
                            V.int IntKind.i64 (1 : Int), V.int IntKind.i64 (-1000 : Int), V.int IntKind.i64 (1000 : Int), V.str [], V.bool false,
                            V.str [112, 111, 114, 116, 115], V.int IntKind.i64 (4 : Int), V.int IntKind.i64 (0 : Int), V.int IntKind.i64 (8 : Int),
                            V.int IntKind.i64 (0 : Int), V.int IntKind.i64 (0 : Int), V.str [112, 111, 114, 116], V.bool true],
                        V.dsl 1 false [V.int IntKind.i64 (0 : Int)], V.bool true]]]
              [] (Ret.mk (V.tup [V.agg [V.dsl 3 false [V.dsl 0 true [], V.dsl 0 true [], V.dsl 0 true []], V.int IntKind.i64 (1 : Int)], V.int IntKind.i64 (0 : Int)]) [] [])]
          (T.need [FnOK (Env.P EI01) 6 [V.dsl (List.length l) false (encs encByte l), V.int IntKind.i64 (0 : Int), V.int IntKind.i64 (2 : Int)] [] (Ret.mk (V.int IntKind.i64 (0 : Int)) [] [])]
            (T.need [FnOK (Env.P EI01) 6 [V.dsl (List.length m) false (encs encByte m), V.int IntKind.i64 (0 : Int), V.int IntKind.i64 (2 : Int)] [] (Ret.mk (V.int IntKind.i64 (1 : Int)) [] [])]
              (T.need
                [FnOK (Env.P EI01) 7 [V.sl 0 0 2 true, V.int IntKind.i64 (1 : Int)]
                    [some
                        ([V.int IntKind.i64 (1 : Int), V.str [115, 119, 105, 116, 99, 104], V.str [], V.dsl 0 true [],
                            V.sl 1 0 2 true, V.dsl 0 true [], V.dsl 0 true [], V.bool false, V.int IntKind.i64 (1 : Int),
                            V.str [112, 111, 114, 116], V.str [112], V.dsl 0 true [], V.sl 2 0 2 true, V.dsl 0 true [],
                            V.dsl 0 true [], V.bool false],
                          43),
                      some
                        ([V.str [110, 97, 109, 101], V.sl 3 0 1 true, V.dsl 0 true [],
                            V.str [112, 111, 114, 116, 115], V.dsl 0 true [], V.sl 4 0 1 true],
                          38),
                      some
                        ([V.str [110, 97, 109, 101], V.sl 3 0 1 true, V.dsl 0 true [], V.str [117, 112],
                            V.sl 5 0 1 true, V.dsl 0 true []],
                          38),
                      some ([V.int IntKind.i64 (2 : Int), V.int IntKind.i64 (0 : Int), V.str [104, 101, 114, 101]], 33), some ([V.str [112]], 9),
                      some ([V.int IntKind.i64 (3 : Int), V.int IntKind.i64 (0 : Int), V.str []], 33)]
                    (Ret.mk (V.tup [V.dsl 2 false [V.int IntKind.i64 (1 : Int), V.int IntKind.i64 (2 : Int)], V.int IntKind.i64 (0 : Int)])
                      [some
                          ([V.int IntKind.i64 (1 : Int), V.str [115, 119, 105, 116, 99, 104], V.str [], V.dsl 0 true [],
                              V.sl 1 0 2 true, V.dsl 0 true [], V.dsl 0 true [], V.bool false, V.int IntKind.i64 (1 : Int),
                              V.str [112, 111, 114, 116], V.str [112], V.dsl 0 true [], V.sl 2 0 2 true, V.dsl 0 true [],
                              V.dsl 0 true [], V.bool false],
                            43),
                        some
                          ([V.str [110, 97, 109, 101], V.sl 3 0 1 true, V.dsl 0 true [],
                              V.str [112, 111, 114, 116, 115], V.dsl 0 true [], V.sl 4 0 1 true],
                            38),
                        some
                          ([V.str [110, 97, 109, 101], V.sl 3 0 1 true, V.dsl 0 true [], V.str [117, 112],
                              V.sl 5 0 1 true, V.dsl 0 true []],
                            38),
                        some ([V.int IntKind.i64 (2 : Int), V.int IntKind.i64 (0 : Int), V.str [104, 101, 114, 101]], 33), some ([V.str [112]], 9),
                        some ([V.int IntKind.i64 (3 : Int), V.int IntKind.i64 (0 : Int), V.str []], 33)]
                      [])]
                (T.need
                  [FnOK (Env.P EI01) 8
                      [V.agg
                          [V.dsl 3 false
                              [V.str [110, 111, 116, 101],
                                V.dsl 2 false
                                  [V.str [110, 97, 109, 101], V.int IntKind.i64 (2 : Int), V.int IntKind.i64 (1 : Int), V.int IntKind.i64 (1 : Int), V.int IntKind.i64 (0 : Int),
                                    V.int IntKind.i64 (0 : Int), V.str [], V.bool false, V.str [97, 98, 111, 117, 116], V.int IntKind.i64 (4 : Int),
                                    V.int IntKind.i64 (0 : Int), V.int IntKind.i64 (4 : Int), V.int IntKind.i64 (0 : Int), V.int IntKind.i64 (0 : Int), V.str [112, 111, 114, 116],
                                    V.bool false],
                                V.dsl 0 false [], V.bool true, V.str [112, 111, 114, 116],
                                V.dsl 3 false
                                  [V.str [110, 97, 109, 101], V.int IntKind.i64 (2 : Int), V.int IntKind.i64 (1 : Int), V.int IntKind.i64 (1 : Int), V.int IntKind.i64 (0 : Int),
                                    V.int IntKind.i64 (0 : Int), V.str [], V.bool false, V.str [116, 97, 103], V.int IntKind.i64 (1 : Int), V.int IntKind.i64 (0 : Int),
                                    V.int IntKind.i64 (1 : Int), V.int IntKind.i64 (0 : Int), V.int IntKind.i64 (99 : Int), V.str [], V.bool false, V.str [117, 112], V.int IntKind.i64 (3 : Int),
                                    V.int IntKind.i64 (1 : Int), V.int IntKind.i64 (1 : Int), V.int IntKind.i64 (0 : Int), V.int IntKind.i64 (0 : Int), V.str [], V.bool false],
                                V.dsl 1 false [V.int IntKind.i64 (0 : Int)], V.bool false, V.str [115, 119, 105, 116, 99, 104],
                                V.dsl 3 false
                                  [V.str [110, 97, 109, 101], V.int IntKind.i64 (2 : Int), V.int IntKind.i64 (1 : Int), V.int IntKind.i64 (1 : Int), V.int IntKind.i64 (0 : Int),
                                    V.int IntKind.i64 (0 : Int), V.str [], V.bool false, V.str [99, 111, 117, 110, 116], V.int IntKind.i64 (1 : Int),
                                    V.int IntKind.i64 (1 : Int), V.int IntKind.i64 (1 : Int), V.int IntKind.i64 (-1000 : Int), V.int IntKind.i64 (1000 : Int), V.str [], V.bool false,
                                    V.str [112, 111, 114, 116, 115], V.int IntKind.i64 (4 : Int), V.int IntKind.i64 (0 : Int), V.int IntKind.i64 (8 : Int),
                                    V.int IntKind.i64 (0 : Int), V.int IntKind.i64 (0 : Int), V.str [112, 111, 114, 116], V.bool true],
                                V.dsl 1 false [V.int IntKind.i64 (0 : Int)], V.bool true]],
                        V.agg [V.dsl 3 false [V.dsl 0 true [], V.dsl 0 true [], V.dsl 0 true []], V.int IntKind.i64 (1 : Int)], V.sl 0 0 2 true,
                        V.sl 1 0 0 true]
                      [some
                          ([V.int IntKind.i64 (1 : Int), V.str [115, 119, 105, 116, 99, 104], V.str [], V.dsl 0 true [],
                              V.sl 2 0 2 true, V.dsl 0 true [], V.dsl 0 true [], V.bool false, V.int IntKind.i64 (1 : Int),
                              V.str [112, 111, 114, 116], V.str [112], V.dsl 0 true [], V.sl 3 0 2 true, V.dsl 0 true [],
                              V.dsl 0 true [], V.bool false],
                            43),
                        some ([], 9),
                        some
                          ([V.str [110, 97, 109, 101], V.sl 4 0 1 true, V.dsl 0 true [],
                              V.str [112, 111, 114, 116, 115], V.dsl 0 true [], V.sl 5 0 1 true],
                            38),
                        some
                          ([V.str [110, 97, 109, 101], V.sl 4 0 1 true, V.dsl 0 true [], V.str [117, 112],
                              V.sl 6 0 1 true, V.dsl 0 true []],
                            38),
                        some ([V.int IntKind.i64 (2 : Int), V.int IntKind.i64 (0 : Int), V.str [104, 101, 114, 101]], 33), some ([V.str [112]], 9),
                        some ([V.int IntKind.i64 (3 : Int), V.int IntKind.i64 (0 : Int), V.str []], 33)]
                      (Ret.mk (V.tup [V.agg [V.sl 7 0 3 false, V.int IntKind.i64 (3 : Int)], V.sl 8 0 2 false, V.int IntKind.i64 (0 : Int)])
                        [some
                            ([V.int IntKind.i64 (1 : Int), V.str [115, 119, 105, 116, 99, 104], V.str [], V.dsl 0 true [],
                                V.sl 2 0 2 true, V.dsl 0 true [], V.dsl 0 true [], V.bool false, V.int IntKind.i64 (1 : Int),
                                V.str [112, 111, 114, 116], V.str [112], V.dsl 0 true [], V.sl 3 0 2 true, V.dsl 0 true [],
                                V.dsl 0 true [], V.bool false],
                              43),
                          some ([], 9),
                          some
                            ([V.str [110, 97, 109, 101], V.sl 4 0 1 true, V.dsl 0 true [],
                                V.str [112, 111, 114, 116, 115], V.dsl 0 true [], V.sl 5 0 1 true],
                              38),
                          some
                            ([V.str [110, 97, 109, 101], V.sl 4 0 1 true, V.dsl 0 true [], V.str [117, 112],
                                V.sl 6 0 1 true, V.dsl 0 true []],
                              38),
                          some ([V.int IntKind.i64 (2 : Int), V.int IntKind.i64 (0 : Int), V.str [104, 101, 114, 101]], 33), some ([V.str [112]], 9),
                          some ([V.int IntKind.i64 (3 : Int), V.int IntKind.i64 (0 : Int), V.str []], 33),
                          some ([V.sl 9 0 0 true, V.sl 10 0 1 false, V.sl 11 0 1 false], 52),
                          some
                            ([V.int IntKind.i64 (0 : Int), V.int IntKind.i64 (0 : Int), V.int IntKind.i64 (1 : Int), V.dsl 0 true [], V.dsl 0 true [], V.int IntKind.i64 (0 : Int),
                                V.int IntKind.i64 (0 : Int), V.int IntKind.i64 (2 : Int), V.dsl 0 true [], V.dsl 0 true []],
                              54),
                          some ([], 57), some ([V.int IntKind.i64 (2 : Int), V.sl 12 0 3 false], 57),
                          some ([V.int IntKind.i64 (1 : Int), V.sl 13 0 3 false], 57),
                          some ([V.sl 14 0 1 false, V.dsl 0 true [], V.sl 15 0 1 false], 34),
                          some ([V.sl 16 0 1 false, V.sl 17 0 1 false, V.sl 18 0 1 false], 34),
                          some ([V.int IntKind.i64 (2 : Int), V.int IntKind.i64 (0 : Int), V.str [104, 101, 114, 101]], 33),
                          some ([V.int IntKind.i64 (3 : Int), V.int IntKind.i64 (0 : Int), V.str []], 33),
                          some ([V.int IntKind.i64 (2 : Int), V.int IntKind.i64 (0 : Int), V.str [104, 101, 114, 101]], 33),
                          some ([V.int IntKind.i64 (1 : Int), V.int IntKind.i64 (0 : Int), V.str []], 33), some ([V.sld [], V.int IntKind.i64 (4 : Int), V.int IntKind.i64 (2 : Int), V.str []], 33)]
                        [])]
                  (T.need
                    [FnOK (Env.P EI01) 9 [V.dsl 2 false [V.int IntKind.i64 (1 : Int), V.int IntKind.i64 (2 : Int)], V.sl 0 0 2 true]
                        [some ([V.int IntKind.i64 (1 : Int), V.int IntKind.i64 (2 : Int)], 3)] (Ret.mk (V.bool true) [some ([V.int IntKind.i64 (1 : Int), V.int IntKind.i64 (2 : Int)], 3)] [])]
                    (T.need [(0 : Int) ≤ (0 : Int) ∧ (0 : Int) < (2 : Int)]
                      (T.need [(0 : Int) ≤ (1 : Int) ∧ (1 : Int) < (2 : Int)]
                        (T.need [(0 : Int) ≤ (1 : Int) ∧ (1 : Int) < (3 : Int)]
                          (T.need [(0 : Int) ≤ (2 : Int) ∧ (2 : Int) < (3 : Int)]
                            (T.need [(0 : Int) ≤ (2 : Int) ∧ (2 : Int) < (3 : Int)]
                              (T.need [(0 : Int) ≤ (0 : Int) ∧ (0 : Int) < (1 : Int)]
                                (T.need [(0 : Int) ≤ (2 : Int) ∧ (2 : Int) < (3 : Int)]
                                  (T.need [(0 : Int) ≤ (0 : Int) ∧ (0 : Int) < (1 : Int)]
                                    (T.need [(0 : Int) ≤ (2 : Int) ∧ (2 : Int) < (3 : Int)]
                                      (T.need [(0 : Int) ≤ (1 : Int) ∧ (1 : Int) < (3 : Int)]
                                        (T.need [(0 : Int) ≤ (0 : Int) ∧ (0 : Int) < (1 : Int)]
                                          (T.need [(0 : Int) ≤ (0 : Int) ∧ (0 : Int) < (1 : Int)]
                                            (T.need [(0 : Int) ≤ (0 : Int) ∧ (0 : Int) < (3 : Int)]
                                              (T.need
                                                [FnOK (Env.P EI01) 10 [V.sl 0 0 1 false, V.sl 1 0 1 true]
                                                    [some ([V.int IntKind.i64 (2 : Int), V.int IntKind.i64 (0 : Int), V.str [104, 101, 114, 101]], 33),
                                                      some ([V.int IntKind.i64 (2 : Int), V.int IntKind.i64 (0 : Int), V.str [104, 101, 114, 101]], 33)]
                                                    (Ret.mk (V.bool true)
                                                      [some ([V.int IntKind.i64 (2 : Int), V.int IntKind.i64 (0 : Int), V.str [104, 101, 114, 101]], 33),
                                                        some ([V.int IntKind.i64 (2 : Int), V.int IntKind.i64 (0 : Int), V.str [104, 101, 114, 101]], 33)]
                                                      [])]
                                                (T.need [(0 : Int) ≤ (2 : Int) ∧ (2 : Int) < (3 : Int)]
                                                  (T.need
                                                    [FnOK (Env.P EI01) 10 [V.sl 0 0 1 false, V.sl 1 0 1 true]
                                                        [some ([V.int IntKind.i64 (3 : Int), V.int IntKind.i64 (0 : Int), V.str []], 33),
                                                          some ([V.int IntKind.i64 (3 : Int), V.int IntKind.i64 (0 : Int), V.str []], 33)]
                                                        (Ret.mk (V.bool true)
                                                          [some ([V.int IntKind.i64 (3 : Int), V.int IntKind.i64 (0 : Int), V.str []], 33),
                                                            some ([V.int IntKind.i64 (3 : Int), V.int IntKind.i64 (0 : Int), V.str []], 33)]
                                                          [])]
                                                    (T.need
                                                      [FnOK (Env.P EI01) 8
                                                          [V.agg
                                                              [V.dsl 3 false
                                                                  [V.str [110, 111, 116, 101],
                                                                    V.dsl 2 false
                                                                      [V.str [110, 97, 109, 101], V.int IntKind.i64 (2 : Int), V.int IntKind.i64 (1 : Int),
                                                                        V.int IntKind.i64 (1 : Int), V.int IntKind.i64 (0 : Int), V.int IntKind.i64 (0 : Int), V.str [], V.bool false,
                                                                        V.str [97, 98, 111, 117, 116], V.int IntKind.i64 (4 : Int), V.int IntKind.i64 (0 : Int),
                                                                        V.int IntKind.i64 (4 : Int), V.int IntKind.i64 (0 : Int), V.int IntKind.i64 (0 : Int),
                                                                        V.str [112, 111, 114, 116], V.bool false],
                                                                    V.dsl 0 false [], V.bool true, V.str [112, 111, 114, 116],
                                                                    V.dsl 3 false
                                                                      [V.str [110, 97, 109, 101], V.int IntKind.i64 (2 : Int), V.int IntKind.i64 (1 : Int),
                                                                        V.int IntKind.i64 (1 : Int), V.int IntKind.i64 (0 : Int), V.int IntKind.i64 (0 : Int), V.str [], V.bool false,
                                                                        V.str [116, 97, 103], V.int IntKind.i64 (1 : Int), V.int IntKind.i64 (0 : Int), V.int IntKind.i64 (1 : Int),
                                                                        V.int IntKind.i64 (0 : Int), V.int IntKind.i64 (99 : Int), V.str [], V.bool false, V.str [117, 112], V.int IntKind.i64 (3 : Int),
                                                                        V.int IntKind.i64 (1 : Int), V.int IntKind.i64 (1 : Int), V.int IntKind.i64 (0 : Int), V.int IntKind.i64 (0 : Int), V.str [], V.bool false],
                                                                    V.dsl 1 false [V.int IntKind.i64 (0 : Int)], V.bool false,
                                                                    V.str [115, 119, 105, 116, 99, 104],
                                                                    V.dsl 3 false
                                                                      [V.str [110, 97, 109, 101], V.int IntKind.i64 (2 : Int), V.int IntKind.i64 (1 : Int),
                                                                        V.int IntKind.i64 (1 : Int), V.int IntKind.i64 (0 : Int), V.int IntKind.i64 (0 : Int), V.str [], V.bool false,
                                                                        V.str [99, 111, 117, 110, 116], V.int IntKind.i64 (1 : Int), V.int IntKind.i64 (1 : Int),
                                                                        V.int IntKind.i64 (1 : Int), V.int IntKind.i64 (-1000 : Int), V.int IntKind.i64 (1000 : Int), V.str [], V.bool false,
                                                                        V.str [112, 111, 114, 116, 115], V.int IntKind.i64 (4 : Int), V.int IntKind.i64 (0 : Int),
                                                                        V.int IntKind.i64 (8 : Int), V.int IntKind.i64 (0 : Int), V.int IntKind.i64 (0 : Int),
                                                                        V.str [112, 111, 114, 116], V.bool true],
                                                                    V.dsl 1 false [V.int IntKind.i64 (0 : Int)], V.bool true]],
                                                            V.agg [V.sl 0 0 3 false, V.int IntKind.i64 (3 : Int)], V.sl 1 0 1 true, V.sl 2 0 0 true]
                                                          [some ([V.sl 3 0 0 true, V.sl 4 0 1 false, V.sl 5 0 1 false], 52),
                                                            some
                                                              ([V.int IntKind.i64 (4 : Int), V.str [115, 119, 105, 116, 99, 104], V.str [],
                                                                  V.dsl 0 true [], V.dsl 0 true [], V.sl 6 0 1 true, V.dsl 0 true [], V.bool false],
                                                                43),
                                                            some ([], 9), some ([], 57), some ([V.int IntKind.i64 (2 : Int), V.sl 7 0 3 false], 57),
                                                            some ([V.int IntKind.i64 (1 : Int), V.sl 8 0 3 false], 57),
                                                            some
                                                              ([V.str [112, 111, 114, 116, 115], V.int IntKind.i64 (7 : Int), V.sl 9 0 1 false],
                                                                60),
                                                            some ([V.sl 10 0 1 false, V.dsl 0 true [], V.sl 11 0 1 false], 34),
                                                            some ([V.sl 12 0 1 false, V.sl 13 0 1 false, V.sl 9 0 1 false], 34),
                                                            some ([V.sld [], V.int IntKind.i64 (4 : Int), V.int IntKind.i64 (2 : Int), V.str []], 33),
                                                            some ([V.int IntKind.i64 (2 : Int), V.int IntKind.i64 (0 : Int), V.str [104, 101, 114, 101]], 33),
                                                            some ([V.int IntKind.i64 (3 : Int), V.int IntKind.i64 (0 : Int), V.str []], 33),
                                                            some ([V.int IntKind.i64 (2 : Int), V.int IntKind.i64 (0 : Int), V.str [104, 101, 114, 101]], 33),
                                                            some ([V.int IntKind.i64 (1 : Int), V.int IntKind.i64 (0 : Int), V.str []], 33)]
                                                          (Ret.mk
                                                            (V.tup [V.agg [V.sl 14 0 3 false, V.int IntKind.i64 (3 : Int)], V.sl 15 0 1 false, V.int IntKind.i64 (0 : Int)])
                                                            [some ([V.sl 3 0 0 true, V.sl 4 0 1 false, V.sl 5 0 1 false], 52),
                                                              some
                                                                ([V.int IntKind.i64 (4 : Int), V.str [115, 119, 105, 116, 99, 104], V.str [],
                                                                    V.dsl 0 true [], V.dsl 0 true [], V.sl 6 0 1 true, V.dsl 0 true [], V.bool false],
                                                                  43),
                                                              some ([], 9), some ([], 57), some ([V.int IntKind.i64 (2 : Int), V.sl 7 0 3 false], 57),
                                                              some ([V.int IntKind.i64 (1 : Int), V.sl 8 0 3 false], 57),
                                                              some
                                                                ([V.str [112, 111, 114, 116, 115], V.int IntKind.i64 (7 : Int), V.sl 9 0 1 false],
                                                                  60),
                                                              some ([V.sl 10 0 1 false, V.dsl 0 true [], V.sl 11 0 1 false], 34),
                                                              some ([V.sl 12 0 1 false, V.sl 13 0 1 false, V.sl 9 0 1 false], 34),
                                                              some ([V.sld [], V.int IntKind.i64 (4 : Int), V.int IntKind.i64 (2 : Int), V.str []], 33),
                                                              some ([V.int IntKind.i64 (2 : Int), V.int IntKind.i64 (0 : Int), V.str [104, 101, 114, 101]], 33),
                                                              some ([V.int IntKind.i64 (3 : Int), V.int IntKind.i64 (0 : Int), V.str []], 33),
                                                              some ([V.int IntKind.i64 (2 : Int), V.int IntKind.i64 (0 : Int), V.str [104, 101, 114, 101]], 33),
                                                              some ([V.int IntKind.i64 (1 : Int), V.int IntKind.i64 (0 : Int), V.str []], 33),
                                                              some ([V.sl 16 0 0 true, V.sl 17 0 0 false, V.sl 18 0 1 false], 52),
                                                              some ([V.int IntKind.i64 (0 : Int), V.int IntKind.i64 (1 : Int), V.int IntKind.i64 (0 : Int), V.dsl 0 true [], V.dsl 0 true []], 54),
                                                              some ([], 57), some ([V.int IntKind.i64 (0 : Int), V.dsl 0 true []], 57),
                                                              some ([V.int IntKind.i64 (1 : Int), V.sl 19 0 3 false], 57),
                                                              some ([V.sl 20 0 1 false, V.sl 21 0 1 false, V.sl 22 0 0 false], 34),
                                                              some ([V.int IntKind.i64 (2 : Int), V.int IntKind.i64 (0 : Int), V.str [104, 101, 114, 101]], 33),
                                                              some ([V.int IntKind.i64 (1 : Int), V.int IntKind.i64 (0 : Int), V.str []], 33), some ([], 33)]
                                                            [])]
                                                      (T.need
                                                        [FnOK (Env.P EI01) 8
                                                            [V.agg
                                                                [V.dsl 3 false
                                                                    [V.str [110, 111, 116, 101],
                                                                      V.dsl 2 false
                                                                        [V.str [110, 97, 109, 101], V.int IntKind.i64 (2 : Int), V.int IntKind.i64 (1 : Int),
                                                                          V.int IntKind.i64 (1 : Int), V.int IntKind.i64 (0 : Int), V.int IntKind.i64 (0 : Int), V.str [], V.bool false,
                                                                          V.str [97, 98, 111, 117, 116], V.int IntKind.i64 (4 : Int), V.int IntKind.i64 (0 : Int),
                                                                          V.int IntKind.i64 (4 : Int), V.int IntKind.i64 (0 : Int), V.int IntKind.i64 (0 : Int),
                                                                          V.str [112, 111, 114, 116], V.bool false],
                                                                      V.dsl 0 false [], V.bool true, V.str [112, 111, 114, 116],
                                                                      V.dsl 3 false
                                                                        [V.str [110, 97, 109, 101], V.int IntKind.i64 (2 : Int), V.int IntKind.i64 (1 : Int),
                                                                          V.int IntKind.i64 (1 : Int), V.int IntKind.i64 (0 : Int), V.int IntKind.i64 (0 : Int), V.str [], V.bool false,
                                                                          V.str [116, 97, 103], V.int IntKind.i64 (1 : Int), V.int IntKind.i64 (0 : Int), V.int IntKind.i64 (1 : Int),
                                                                          V.int IntKind.i64 (0 : Int), V.int IntKind.i64 (99 : Int), V.str [], V.bool false, V.str [117, 112],
                                                                          V.int IntKind.i64 (3 : Int), V.int IntKind.i64 (1 : Int), V.int IntKind.i64 (1 : Int), V.int IntKind.i64 (0 : Int), V.int IntKind.i64 (0 : Int),
                                                                          V.str [], V.bool false],
                                                                      V.dsl 1 false [V.int IntKind.i64 (0 : Int)], V.bool false,
                                                                      V.str [115, 119, 105, 116, 99, 104],
                                                                      V.dsl 3 false
                                                                        [V.str [110, 97, 109, 101], V.int IntKind.i64 (2 : Int), V.int IntKind.i64 (1 : Int),
                                                                          V.int IntKind.i64 (1 : Int), V.int IntKind.i64 (0 : Int), V.int IntKind.i64 (0 : Int), V.str [], V.bool false,
                                                                          V.str [99, 111, 117, 110, 116], V.int IntKind.i64 (1 : Int), V.int IntKind.i64 (1 : Int),
                                                                          V.int IntKind.i64 (1 : Int), V.int IntKind.i64 (-1000 : Int), V.int IntKind.i64 (1000 : Int), V.str [], V.bool false,
                                                                          V.str [112, 111, 114, 116, 115], V.int IntKind.i64 (4 : Int), V.int IntKind.i64 (0 : Int),
                                                                          V.int IntKind.i64 (8 : Int), V.int IntKind.i64 (0 : Int), V.int IntKind.i64 (0 : Int),
                                                                          V.str [112, 111, 114, 116], V.bool true],
                                                                      V.dsl 1 false [V.int IntKind.i64 (0 : Int)], V.bool true]],
                                                              V.agg [V.dsl 3 false [V.dsl 0 true [], V.dsl 0 true [], V.dsl 0 true []], V.int IntKind.i64 (1 : Int)],
                                                              V.sl 0 0 1 true, V.sl 1 0 0 true]
                                                            [some
                                                                ([V.int IntKind.i64 (1 : Int), V.str [112, 111, 114, 116], V.str [112], V.dsl 0 true [],
                                                                    V.sl 2 0 2 true, V.dsl 0 true [], V.dsl 0 true [], V.bool false],
                                                                  43),
                                                              some ([], 9),
                                                              some
                                                                ([V.str [110, 97, 109, 101], V.sl 3 0 1 true, V.dsl 0 true [],
                                                                    V.str [117, 112], V.sl 4 0 1 true, V.dsl 0 true []],
                                                                  38),
                                                              some ([V.int IntKind.i64 (2 : Int), V.int IntKind.i64 (0 : Int), V.str [104, 101, 114, 101]], 33),
                                                              some ([V.int IntKind.i64 (3 : Int), V.int IntKind.i64 (0 : Int), V.str []], 33)]
                                                            (Ret.mk
                                                              (V.tup [V.agg [V.sl 5 0 3 false, V.int IntKind.i64 (2 : Int)], V.sl 6 0 1 false, V.int IntKind.i64 (0 : Int)])
                                                              [some
                                                                  ([V.int IntKind.i64 (1 : Int), V.str [112, 111, 114, 116], V.str [112], V.dsl 0 true [],
                                                                      V.sl 2 0 2 true, V.dsl 0 true [], V.dsl 0 true [], V.bool false],
                                                                    43),
                                                                some ([], 9),
                                                                some
                                                                  ([V.str [110, 97, 109, 101], V.sl 3 0 1 true, V.dsl 0 true [],
                                                                      V.str [117, 112], V.sl 4 0 1 true, V.dsl 0 true []],
                                                                    38),
                                                                some ([V.int IntKind.i64 (2 : Int), V.int IntKind.i64 (0 : Int), V.str [104, 101, 114, 101]], 33),
                                                                some ([V.int IntKind.i64 (3 : Int), V.int IntKind.i64 (0 : Int), V.str []], 33),
                                                                some ([V.sl 7 0 0 true, V.sl 8 0 0 false, V.sl 9 0 0 true], 52),
                                                                some ([V.int IntKind.i64 (0 : Int), V.int IntKind.i64 (0 : Int), V.int IntKind.i64 (1 : Int), V.dsl 0 true [], V.dsl 0 true []], 54),
                                                                some ([], 57), some ([V.int IntKind.i64 (0 : Int), V.dsl 0 true []], 57), some ([], 57)]
                                                              [])]
                                                        (T.need
                                                          [FnOK (Env.P EI01) 8
                                                              [V.agg
                                                                  [V.dsl 3 false
                                                                      [V.str [110, 111, 116, 101],
                                                                        V.dsl 2 false
                                                                          [V.str [110, 97, 109, 101], V.int IntKind.i64 (2 : Int), V.int IntKind.i64 (1 : Int),
                                                                            V.int IntKind.i64 (1 : Int), V.int IntKind.i64 (0 : Int), V.int IntKind.i64 (0 : Int), V.str [], V.bool false,
                                                                            V.str [97, 98, 111, 117, 116], V.int IntKind.i64 (4 : Int), V.int IntKind.i64 (0 : Int),
                                                                            V.int IntKind.i64 (4 : Int), V.int IntKind.i64 (0 : Int), V.int IntKind.i64 (0 : Int),
                                                                            V.str [112, 111, 114, 116], V.bool false],
                                                                        V.dsl 0 false [], V.bool true, V.str [112, 111, 114, 116],
                                                                        V.dsl 3 false
                                                                          [V.str [110, 97, 109, 101], V.int IntKind.i64 (2 : Int), V.int IntKind.i64 (1 : Int),
                                                                            V.int IntKind.i64 (1 : Int), V.int IntKind.i64 (0 : Int), V.int IntKind.i64 (0 : Int), V.str [], V.bool false,
                                                                            V.str [116, 97, 103], V.int IntKind.i64 (1 : Int), V.int IntKind.i64 (0 : Int), V.int IntKind.i64 (1 : Int),
                                                                            V.int IntKind.i64 (0 : Int), V.int IntKind.i64 (99 : Int), V.str [], V.bool false, V.str [117, 112],
                                                                            V.int IntKind.i64 (3 : Int), V.int IntKind.i64 (1 : Int), V.int IntKind.i64 (1 : Int), V.int IntKind.i64 (0 : Int), V.int IntKind.i64 (0 : Int),
                                                                            V.str [], V.bool false],
                                                                        V.dsl 1 false [V.int IntKind.i64 (0 : Int)], V.bool false,
                                                                        V.str [115, 119, 105, 116, 99, 104],
                                                                        V.dsl 3 false
                                                                          [V.str [110, 97, 109, 101], V.int IntKind.i64 (2 : Int), V.int IntKind.i64 (1 : Int),
                                                                            V.int IntKind.i64 (1 : Int), V.int IntKind.i64 (0 : Int), V.int IntKind.i64 (0 : Int), V.str [], V.bool false,
                                                                            V.str [99, 111, 117, 110, 116], V.int IntKind.i64 (1 : Int), V.int IntKind.i64 (1 : Int),
                                                                            V.int IntKind.i64 (1 : Int), V.int IntKind.i64 (-1000 : Int), V.int IntKind.i64 (1000 : Int), V.str [], V.bool false,
                                                                            V.str [112, 111, 114, 116, 115], V.int IntKind.i64 (4 : Int), V.int IntKind.i64 (0 : Int),
                                                                            V.int IntKind.i64 (8 : Int), V.int IntKind.i64 (0 : Int), V.int IntKind.i64 (0 : Int),
                                                                            V.str [112, 111, 114, 116], V.bool true],
                                                                        V.dsl 1 false [V.int IntKind.i64 (0 : Int)], V.bool true]],
                                                                V.agg [V.dsl 3 false [V.dsl 0 true [], V.dsl 0 true [], V.dsl 0 true []], V.int IntKind.i64 (1 : Int)],
                                                                V.sl 0 0 1 true, V.sl 1 0 0 true]
                                                              [some
                                                                  ([V.int IntKind.i64 (1 : Int), V.str [115, 119, 105, 116, 99, 104], V.str [],
                                                                      V.dsl 0 true [], V.sl 2 0 2 true, V.dsl 0 true [], V.dsl 0 true [], V.bool false],
                                                                    43),
                                                                some ([], 9),
                                                                some
                                                                  ([V.str [110, 97, 109, 101], V.sl 3 0 1 true, V.dsl 0 true [],
                                                                      V.str [112, 111, 114, 116, 115], V.dsl 0 true [], V.sl 4 0 1 true],
                                                                    38),
                                                                some ([V.int IntKind.i64 (2 : Int), V.int IntKind.i64 (0 : Int), V.str [104, 101, 114, 101]], 33),
                                                                some ([V.str [112]], 9)]
                                                              (Ret.mk
                                                                (V.tup [V.agg [V.sl 5 0 3 false, V.int IntKind.i64 (1 : Int)], V.sl 6 0 1 false, V.int IntKind.i64 (0 : Int)])
                                                                [some
                                                                    ([V.int IntKind.i64 (1 : Int), V.str [115, 119, 105, 116, 99, 104], V.str [],
                                                                        V.dsl 0 true [], V.sl 2 0 2 true, V.dsl 0 true [], V.dsl 0 true [], V.bool false],
                                                                      43),
                                                                  some ([], 9),
                                                                  some
                                                                    ([V.str [110, 97, 109, 101], V.sl 3 0 1 true, V.dsl 0 true [],
                                                                        V.str [112, 111, 114, 116, 115], V.dsl 0 true [], V.sl 4 0 1 true],
                                                                      38),
                                                                  some ([V.int IntKind.i64 (2 : Int), V.int IntKind.i64 (0 : Int), V.str [104, 101, 114, 101]], 33),
                                                                  some ([V.str [112]], 9),
                                                                  some ([V.sl 7 0 0 true, V.sl 8 0 0 true, V.sl 9 0 0 true], 52),
                                                                  some
                                                                    ([V.int IntKind.i64 (13 : Int), V.int IntKind.i64 (0 : Int), V.int IntKind.i64 (0 : Int), V.dsl 0 true [], V.dsl 0 true []], 54),
                                                                  some ([], 57), some ([], 57), some ([], 57)]
                                                                [])]
                                                          (T.need [(0 : Int) ≤ (1 : Int) ∧ (1 : Int) < (3 : Int)]
                                                            (T.need [(0 : Int) ≤ (2 : Int) ∧ (2 : Int) < (3 : Int)]
                                                              (T.need [(0 : Int) ≤ (1 : Int) ∧ (1 : Int) < (3 : Int)]
                                                                (T.need
                                                                  [FnOK (Env.P EI01) 11
                                                                      [V.agg [V.sl 0 0 3 false, V.int IntKind.i64 (1 : Int)],
                                                                        V.agg [V.dsl 3 false [V.dsl 0 true [], V.dsl 0 true [], V.dsl 0 true []], V.int IntKind.i64 (1 : Int)]]
                                                                      [some ([V.sl 1 0 0 true, V.sl 2 0 0 true, V.sl 3 0 0 true], 52),
                                                                        some ([], 57), some ([], 57), some ([], 57)]
                                                                      (Ret.mk (V.bool true)
                                                                        [some ([V.sl 1 0 0 true, V.sl 2 0 0 true, V.sl 3 0 0 true], 52),
                                                                          some ([], 57), some ([], 57), some ([], 57)]
                                                                        [])]
                                                                  (T.need [(0 : Int) ≤ (0 : Int) ∧ (0 : Int) < (1 : Int)] (T.done (Ret.mk (V.bool true) [] [])))))))))))))))))))))))))))))))) := by kernel_rfl
theorem law01_ok (l m : List UInt8) (hl : atF l 0 2 = 0) (hm : atF m 0 2 = 1) : FnOK Tryz.prog fLaw [sls encByte l, sls encByte m] [] ⟨.bool true, [], []⟩ := by
  refine fnOK_TL (E := EI01) follows named (law01T l m) (by simp) ?_
  have o1 := at_ok l 0 (by omega) 2 (by omega)
  have o2 := at_ok m 0 (by omega) 2 (by omega)
  rw [hl] at o1
  rw [hm] at o2
  simp only [WP_cond, T.WP, All, decide_eq_true_eq, decide_eq_false_iff_not, and_true, beq_iff_eq, beq_eq_false_iff_ne, ne_eq]
  repeat' with_reducible first
    | intro h
    | apply And.intro
  all_goals first
    | omega
    | trivial
    | rfl
    | exact o1
    | exact o2
    | exact pc0
    | exact pc1
    | exact pc4
    | exact pc5
    | exact pc6
    | exact pc8
    | exact pc9
    | exact pc10
    | exact pc11
    | exact pc12
    | exact pc13

end Go.Proofs.YtlimecojoiimaaaGreat

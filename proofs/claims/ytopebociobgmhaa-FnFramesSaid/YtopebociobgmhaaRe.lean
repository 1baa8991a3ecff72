/-
  Values that are drawn: the whole.
-/
import Derived.Test.YtopebociobgmhaaRd
namespace Go.Proofs.Ytopebociobgmhaa
open Go.RowKit

noncomputable def lsJson (f : Src → J × Src) : Nat → St → Option LRes := fun id s => match s.hp with
  | some ([.dsl _ _ cs, .int _ k, .int _ sd], _) :: _ => match id, s.tm.get 1, s.tm.get 7 with
    | 1, .int _ d, .int _ i => some ⟨drawList f i.toNat (srcOf cs k sd) [], fun y => .two { keep := [0, 1, 4, 6, 7] } (stL0 (srcOf cs k sd) d i) y.1.isEmpty (.exit 1) (stL0 y.2 d 0) (.exit 1) (stL1 y.2 d 0 y.1)⟩
    | 3, .int _ d, _ => some ⟨drawObj f objKeys (srcOf cs k sd) [] [], fun y => .two { keep := [0, 1, 4, 8, 9] } (stO0 (srcOf cs k sd) d 0) y.1.isEmpty (.exit 3) (stO0 y.2.2 d 4) (.exit 3) (stO1 y.2.2 d 4 y.1 y.2.1)⟩
    | _, _, _ => none
  | _ => none
noncomputable def resText : ResT := fun f vs hp => match vs, hp with
  | [.ptr 0 0], [some ([.dsl _ _ cs, .int _ k, .int _ s], _)] => bif Nat.beq f fJsText then some ⟨pickF (srcOf cs k s) jsTexts, fun y => ⟨.str y.1, [srcB y.2], [0]⟩⟩ else none
  | _, _ => none
noncomputable def EK (f : Src → J × Src) (v : Int) : Env := { P := Try.prog, vw := vwA, res := (resNext.or resPick).or resText, ls := lsJson f, vs := [(10, 8, .int .i64 v)] }

--FOLD srcB vwJ stL0 stL1 stO0 stO1 zJ
set_option maxRecDepth 100000 in
theorem json0T (f : Src → J × Src) (v : Int) (x : Src) : fnT (EK f v) 0 fJson [.ptr 0 0, .int .i64 0] [srcB x] =
  T.bind (nextF (srcOf (encs encByte (Src.l x)) (↑(Src.k x) : Int) (Src.s x)) (6 : Int)) fun y0 =>
    T.need [FnOK (Env.P (EK f v)) 37 [V.ptr 0 0, V.int IntKind.i64 (6 : Int)] [srcB x] (Ret.mk (V.int IntKind.i64 (Prod.fst y0)) [srcB (Prod.snd y0)] [0])]
      (T.bind (nextF (srcOf (encs encByte (Src.l (Prod.snd y0))) (↑(Src.k (Prod.snd y0)) : Int) (Src.s (Prod.snd y0))) (4 : Int)) fun y1 =>
        T.need [FnOK (Env.P (EK f v)) 37 [V.ptr 0 0, V.int IntKind.i64 (4 : Int)] [srcB (Prod.snd y0)] (Ret.mk (V.int IntKind.i64 (Prod.fst y1)) [srcB (Prod.snd y1)] [0])]
          (bif Prod.fst y1 == (0 : Int) then T.done (Ret.mk (V.agg [V.int IntKind.i64 (0 : Int), V.int IntKind.i64 (0 : Int), V.str [], V.dsl 0 false [], V.dsl 0 false []]) [srcB (Prod.snd y1)] [0])
          else
            bif Prod.fst y1 == (1 : Int) then
              T.bind (nextF (srcOf (encs encByte (Src.l (Prod.snd y1))) (↑(Src.k (Prod.snd y1)) : Int) (Src.s (Prod.snd y1))) (2 : Int)) fun y2 =>
                T.need [FnOK (Env.P (EK f v)) 37 [V.ptr 0 0, V.int IntKind.i64 (2 : Int)] [srcB (Prod.snd y1)] (Ret.mk (V.int IntKind.i64 (Prod.fst y2)) [srcB (Prod.snd y2)] [0])]
                  (T.done (Ret.mk (V.agg [V.int IntKind.i64 (1 : Int), V.int IntKind.i64 (Prod.fst y2), V.str [], V.dsl 0 false [], V.dsl 0 false []]) [srcB (Prod.snd y2)] [0]))
            else
              bif Prod.fst y1 == (2 : Int) then
                T.bind (nextF (srcOf (encs encByte (Src.l (Prod.snd y1))) (↑(Src.k (Prod.snd y1)) : Int) (Src.s (Prod.snd y1))) (20 : Int)) fun y3 =>
                  T.need [FnOK (Env.P (EK f v)) 37 [V.ptr 0 0, V.int IntKind.i64 (20 : Int)] [srcB (Prod.snd y1)] (Ret.mk (V.int IntKind.i64 (Prod.fst y3)) [srcB (Prod.snd y3)] [0])]
                    (T.bind (nextF (srcOf (encs encByte (Src.l (Prod.snd y3))) (↑(Src.k (Prod.snd y3)) : Int) (Src.s (Prod.snd y3))) (6 : Int)) fun y4 =>
                      T.need [FnOK (Env.P (EK f v)) 37 [V.ptr 0 0, V.int IntKind.i64 (6 : Int)] [srcB (Prod.snd y3)] (Ret.mk (V.int IntKind.i64 (Prod.fst y4)) [srcB (Prod.snd y4)] [0])]
                        (T.need [(5 : Int) ≠ (0 : Int)]
                          (T.need [(0 : Int) ≤ IntKind.wrap IntKind.i64 (Int.tdiv (Prod.fst y4) (5 : Int)) ∧ IntKind.wrap IntKind.i64 (Int.tdiv (Prod.fst y4) (5 : Int)) < (2 : Int)]
                            (T.need
                              [[V.int IntKind.i64 (IntKind.wrap IntKind.i64 (Prod.fst y3 - (9 : Int))),
                                      V.int IntKind.i64 (1000000000 : Int)][0 + Int.toNat (IntKind.wrap IntKind.i64 (Int.tdiv (Prod.fst y4) (5 : Int))) * 1]? =
                                  some (V.int IntKind.i64 v)]
                              (T.done (Ret.mk (V.agg [V.int IntKind.i64 (2 : Int), V.int IntKind.i64 v, V.str [], V.dsl 0 false [], V.dsl 0 false []]) [srcB (Prod.snd y4)] [0]))))))
              else
                bif Prod.fst y1 == (3 : Int) then
                  T.bind
                    (pickF (srcOf (encs encByte (Src.l (Prod.snd y1))) (↑(Src.k (Prod.snd y1)) : Int) (Src.s (Prod.snd y1)))
                      [[], [(97 : UInt8)], [(98 : UInt8)], [(107 : UInt8)], [(116 : UInt8), (119 : UInt8), (111 : UInt8), (32 : UInt8), (119 : UInt8), (111 : UInt8), (114 : UInt8), (100 : UInt8), (115 : UInt8)],
                        [(113 : UInt8), (34 : UInt8), (113 : UInt8)], [(98 : UInt8), (92 : UInt8), (98 : UInt8)], [(122 : UInt8), (122 : UInt8)]])
                    fun y5 =>
                    T.need [FnOK (Env.P (EK f v)) 45 [V.ptr 0 0] [srcB (Prod.snd y1)] (Ret.mk (V.str (Prod.fst y5)) [srcB (Prod.snd y5)] [0])]
                      (T.done (Ret.mk (V.agg [V.int IntKind.i64 (3 : Int), V.int IntKind.i64 (0 : Int), V.str (Prod.fst y5), V.dsl 0 false [], V.dsl 0 false []]) [srcB (Prod.snd y5)] [0]))
                else
                  bif Prod.fst y1 == (4 : Int) then
                    T.bind (nextF (srcOf (encs encByte (Src.l (Prod.snd y1))) (↑(Src.k (Prod.snd y1)) : Int) (Src.s (Prod.snd y1))) (4 : Int)) fun y6 =>
                      T.need [FnOK (Env.P (EK f v)) 37 [V.ptr 0 0, V.int IntKind.i64 (4 : Int)] [srcB (Prod.snd y1)] (Ret.mk (V.int IntKind.i64 (Prod.fst y6)) [srcB (Prod.snd y6)] [0])]
                        (T.bind (drawList f (Int.toNat (Prod.fst y6)) (srcOf (encs encByte (Src.l (Prod.snd y6))) (↑(Src.k (Prod.snd y6)) : Int) (Src.s (Prod.snd y6))) []) fun y7 =>
                          T.need [stL0 (Prod.snd y6) (0 : Int) (Prod.fst y6) = stL0 (srcOf (encs encByte (Src.l (Prod.snd y6))) (↑(Src.k (Prod.snd y6)) : Int) (Src.s (Prod.snd y6))) (0 : Int) (Prod.fst y6)]
                            (bif List.isEmpty (Prod.fst y7) then
                              T.need
                                [SoundC (Env.P (EK f v)) 1 (blk Try.prog fJson 1)
                                    (stL0 (srcOf (encs encByte (Src.l (Prod.snd y6))) (↑(Src.k (Prod.snd y6)) : Int) (Src.s (Prod.snd y6))) (0 : Int) (Prod.fst y6)) (Ex.exit 1)
                                    (stL0 (Prod.snd y7) (0 : Int) (0 : Int))]
                                (T.done (Ret.mk (V.agg [V.int IntKind.i64 (4 : Int), V.int IntKind.i64 (0 : Int), V.str [], V.dsl 0 false [], V.dsl 0 false []]) [srcB (Prod.snd y7)] [0]))
                            else
                              T.need
                                [SoundC (Env.P (EK f v)) 1 (blk Try.prog fJson 1)
                                    (stL0 (srcOf (encs encByte (Src.l (Prod.snd y6))) (↑(Src.k (Prod.snd y6)) : Int) (Src.s (Prod.snd y6))) (0 : Int) (Prod.fst y6)) (Ex.exit 1)
                                    (stL1 (Prod.snd y7) (0 : Int) (0 : Int) (Prod.fst y7))]
                                (T.done
                                  (Ret.mk (V.agg [V.int IntKind.i64 (4 : Int), V.int IntKind.i64 (0 : Int), V.str [], V.dsl 0 false [], V.dsl (List.length (Prod.fst y7)) false (encs encJ (Prod.fst y7))])
                                    [srcB (Prod.snd y7)] [0]))))
                  else
                    T.bind
                      (drawObj f [[(97 : UInt8)], [(98 : UInt8)], [(107 : UInt8)], [(122 : UInt8), (122 : UInt8)]] (srcOf (encs encByte (Src.l (Prod.snd y1))) (↑(Src.k (Prod.snd y1)) : Int) (Src.s (Prod.snd y1))) [] [])
                      fun y8 =>
                      T.need [stO0 (Prod.snd y1) (0 : Int) (0 : Int) = stO0 (srcOf (encs encByte (Src.l (Prod.snd y1))) (↑(Src.k (Prod.snd y1)) : Int) (Src.s (Prod.snd y1))) (0 : Int) (0 : Int)]
                        (bif List.isEmpty (Prod.fst y8) then
                          T.need
                            [SoundC (Env.P (EK f v)) 1 (blk Try.prog fJson 3) (stO0 (srcOf (encs encByte (Src.l (Prod.snd y1))) (↑(Src.k (Prod.snd y1)) : Int) (Src.s (Prod.snd y1))) (0 : Int) (0 : Int))
                                (Ex.exit 3) (stO0 (Prod.snd (Prod.snd y8)) (0 : Int) (4 : Int))]
                            (T.done (Ret.mk (V.agg [V.int IntKind.i64 (5 : Int), V.int IntKind.i64 (0 : Int), V.str [], V.dsl 0 false [], V.dsl 0 false []]) [srcB (Prod.snd (Prod.snd y8))] [0]))
                        else
                          T.need
                            [SoundC (Env.P (EK f v)) 1 (blk Try.prog fJson 3) (stO0 (srcOf (encs encByte (Src.l (Prod.snd y1))) (↑(Src.k (Prod.snd y1)) : Int) (Src.s (Prod.snd y1))) (0 : Int) (0 : Int))
                                (Ex.exit 3) (stO1 (Prod.snd (Prod.snd y8)) (0 : Int) (4 : Int) (Prod.fst y8) (Prod.fst (Prod.snd y8)))]
                            (T.done
                              (Ret.mk
                                (V.agg
                                  [V.int IntKind.i64 (5 : Int), V.int IntKind.i64 (0 : Int), V.str [], V.dsl (List.length (Prod.fst y8)) false (encs encStr (Prod.fst y8)),
                                    V.dsl (List.length (Prod.fst (Prod.snd y8))) false (encs encJ (Prod.fst (Prod.snd y8)))])
                                [srcB (Prod.snd (Prod.snd y8))] [0]))))) := (T.force_eq _).symm.trans (by kernel_rfl)

set_option maxRecDepth 100000 in
theorem jsonST (f : Src → J × Src) (v : Int) (x : Src) (d : Nat) : fnT (EK f v) 0 fJson [.ptr 0 0, .int .i64 ((d + 1 : Nat) : Int)] [srcB x] =
  T.bind (nextF (srcOf (encs encByte (Src.l x)) (↑(Src.k x) : Int) (Src.s x)) (6 : Int)) fun y0 =>
    T.need [FnOK (Env.P (EK f v)) 37 [V.ptr 0 0, V.int IntKind.i64 (6 : Int)] [srcB x] (Ret.mk (V.int IntKind.i64 (Prod.fst y0)) [srcB (Prod.snd y0)] [0])]
      (bif Prod.fst y0 == (0 : Int) then T.done (Ret.mk (V.agg [V.int IntKind.i64 (0 : Int), V.int IntKind.i64 (0 : Int), V.str [], V.dsl 0 false [], V.dsl 0 false []]) [srcB (Prod.snd y0)] [0])
      else
        bif Prod.fst y0 == (1 : Int) then
          T.bind (nextF (srcOf (encs encByte (Src.l (Prod.snd y0))) (↑(Src.k (Prod.snd y0)) : Int) (Src.s (Prod.snd y0))) (2 : Int)) fun y1 =>
            T.need [FnOK (Env.P (EK f v)) 37 [V.ptr 0 0, V.int IntKind.i64 (2 : Int)] [srcB (Prod.snd y0)] (Ret.mk (V.int IntKind.i64 (Prod.fst y1)) [srcB (Prod.snd y1)] [0])]
              (T.done (Ret.mk (V.agg [V.int IntKind.i64 (1 : Int), V.int IntKind.i64 (Prod.fst y1), V.str [], V.dsl 0 false [], V.dsl 0 false []]) [srcB (Prod.snd y1)] [0]))
        else
          bif Prod.fst y0 == (2 : Int) then
            T.bind (nextF (srcOf (encs encByte (Src.l (Prod.snd y0))) (↑(Src.k (Prod.snd y0)) : Int) (Src.s (Prod.snd y0))) (20 : Int)) fun y2 =>
              T.need [FnOK (Env.P (EK f v)) 37 [V.ptr 0 0, V.int IntKind.i64 (20 : Int)] [srcB (Prod.snd y0)] (Ret.mk (V.int IntKind.i64 (Prod.fst y2)) [srcB (Prod.snd y2)] [0])]
                (T.bind (nextF (srcOf (encs encByte (Src.l (Prod.snd y2))) (↑(Src.k (Prod.snd y2)) : Int) (Src.s (Prod.snd y2))) (6 : Int)) fun y3 =>
                  T.need [FnOK (Env.P (EK f v)) 37 [V.ptr 0 0, V.int IntKind.i64 (6 : Int)] [srcB (Prod.snd y2)] (Ret.mk (V.int IntKind.i64 (Prod.fst y3)) [srcB (Prod.snd y3)] [0])]
                    (T.need [(5 : Int) ≠ (0 : Int)]
                      (T.need [(0 : Int) ≤ IntKind.wrap IntKind.i64 (Int.tdiv (Prod.fst y3) (5 : Int)) ∧ IntKind.wrap IntKind.i64 (Int.tdiv (Prod.fst y3) (5 : Int)) < (2 : Int)]
                        (T.need
                          [[V.int IntKind.i64 (IntKind.wrap IntKind.i64 (Prod.fst y2 - (9 : Int))),
                                  V.int IntKind.i64 (1000000000 : Int)][0 + Int.toNat (IntKind.wrap IntKind.i64 (Int.tdiv (Prod.fst y3) (5 : Int))) * 1]? =
                              some (V.int IntKind.i64 v)]
                          (T.done (Ret.mk (V.agg [V.int IntKind.i64 (2 : Int), V.int IntKind.i64 v, V.str [], V.dsl 0 false [], V.dsl 0 false []]) [srcB (Prod.snd y3)] [0]))))))
          else
            bif Prod.fst y0 == (3 : Int) then
              T.bind
                (pickF (srcOf (encs encByte (Src.l (Prod.snd y0))) (↑(Src.k (Prod.snd y0)) : Int) (Src.s (Prod.snd y0)))
                  [[], [(97 : UInt8)], [(98 : UInt8)], [(107 : UInt8)], [(116 : UInt8), (119 : UInt8), (111 : UInt8), (32 : UInt8), (119 : UInt8), (111 : UInt8), (114 : UInt8), (100 : UInt8), (115 : UInt8)],
                    [(113 : UInt8), (34 : UInt8), (113 : UInt8)], [(98 : UInt8), (92 : UInt8), (98 : UInt8)], [(122 : UInt8), (122 : UInt8)]])
                fun y4 =>
                T.need [FnOK (Env.P (EK f v)) 45 [V.ptr 0 0] [srcB (Prod.snd y0)] (Ret.mk (V.str (Prod.fst y4)) [srcB (Prod.snd y4)] [0])]
                  (T.done (Ret.mk (V.agg [V.int IntKind.i64 (3 : Int), V.int IntKind.i64 (0 : Int), V.str (Prod.fst y4), V.dsl 0 false [], V.dsl 0 false []]) [srcB (Prod.snd y4)] [0]))
            else
              bif Prod.fst y0 == (4 : Int) then
                T.bind (nextF (srcOf (encs encByte (Src.l (Prod.snd y0))) (↑(Src.k (Prod.snd y0)) : Int) (Src.s (Prod.snd y0))) (4 : Int)) fun y5 =>
                  T.need [FnOK (Env.P (EK f v)) 37 [V.ptr 0 0, V.int IntKind.i64 (4 : Int)] [srcB (Prod.snd y0)] (Ret.mk (V.int IntKind.i64 (Prod.fst y5)) [srcB (Prod.snd y5)] [0])]
                    (T.bind (drawList f (Int.toNat (Prod.fst y5)) (srcOf (encs encByte (Src.l (Prod.snd y5))) (↑(Src.k (Prod.snd y5)) : Int) (Src.s (Prod.snd y5))) []) fun y6 =>
                      T.need
                        [stL0 (Prod.snd y5) (↑(d + 1) : Int) (Prod.fst y5) =
                            stL0 (srcOf (encs encByte (Src.l (Prod.snd y5))) (↑(Src.k (Prod.snd y5)) : Int) (Src.s (Prod.snd y5))) (↑(d + 1) : Int) (Prod.fst y5)]
                        (bif List.isEmpty (Prod.fst y6) then
                          T.need
                            [SoundC (Env.P (EK f v)) 1 (blk Try.prog fJson 1)
                                (stL0 (srcOf (encs encByte (Src.l (Prod.snd y5))) (↑(Src.k (Prod.snd y5)) : Int) (Src.s (Prod.snd y5))) (↑(d + 1) : Int) (Prod.fst y5)) (Ex.exit 1)
                                (stL0 (Prod.snd y6) (↑(d + 1) : Int) (0 : Int))]
                            (T.done (Ret.mk (V.agg [V.int IntKind.i64 (4 : Int), V.int IntKind.i64 (0 : Int), V.str [], V.dsl 0 false [], V.dsl 0 false []]) [srcB (Prod.snd y6)] [0]))
                        else
                          T.need
                            [SoundC (Env.P (EK f v)) 1 (blk Try.prog fJson 1)
                                (stL0 (srcOf (encs encByte (Src.l (Prod.snd y5))) (↑(Src.k (Prod.snd y5)) : Int) (Src.s (Prod.snd y5))) (↑(d + 1) : Int) (Prod.fst y5)) (Ex.exit 1)
                                (stL1 (Prod.snd y6) (↑(d + 1) : Int) (0 : Int) (Prod.fst y6))]
                            (T.done
                              (Ret.mk (V.agg [V.int IntKind.i64 (4 : Int), V.int IntKind.i64 (0 : Int), V.str [], V.dsl 0 false [], V.dsl (List.length (Prod.fst y6)) false (encs encJ (Prod.fst y6))])
                                [srcB (Prod.snd y6)] [0]))))
              else
                T.bind (drawObj f [[(97 : UInt8)], [(98 : UInt8)], [(107 : UInt8)], [(122 : UInt8), (122 : UInt8)]] (srcOf (encs encByte (Src.l (Prod.snd y0))) (↑(Src.k (Prod.snd y0)) : Int) (Src.s (Prod.snd y0))) [] [])
                  fun y7 =>
                  T.need [stO0 (Prod.snd y0) (↑(d + 1) : Int) (0 : Int) = stO0 (srcOf (encs encByte (Src.l (Prod.snd y0))) (↑(Src.k (Prod.snd y0)) : Int) (Src.s (Prod.snd y0))) (↑(d + 1) : Int) (0 : Int)]
                    (bif List.isEmpty (Prod.fst y7) then
                      T.need
                        [SoundC (Env.P (EK f v)) 1 (blk Try.prog fJson 3)
                            (stO0 (srcOf (encs encByte (Src.l (Prod.snd y0))) (↑(Src.k (Prod.snd y0)) : Int) (Src.s (Prod.snd y0))) (↑(d + 1) : Int) (0 : Int)) (Ex.exit 3)
                            (stO0 (Prod.snd (Prod.snd y7)) (↑(d + 1) : Int) (4 : Int))]
                        (T.done (Ret.mk (V.agg [V.int IntKind.i64 (5 : Int), V.int IntKind.i64 (0 : Int), V.str [], V.dsl 0 false [], V.dsl 0 false []]) [srcB (Prod.snd (Prod.snd y7))] [0]))
                    else
                      T.need
                        [SoundC (Env.P (EK f v)) 1 (blk Try.prog fJson 3)
                            (stO0 (srcOf (encs encByte (Src.l (Prod.snd y0))) (↑(Src.k (Prod.snd y0)) : Int) (Src.s (Prod.snd y0))) (↑(d + 1) : Int) (0 : Int)) (Ex.exit 3)
                            (stO1 (Prod.snd (Prod.snd y7)) (↑(d + 1) : Int) (4 : Int) (Prod.fst y7) (Prod.fst (Prod.snd y7)))]
                        (T.done
                          (Ret.mk
                            (V.agg
                              [V.int IntKind.i64 (5 : Int), V.int IntKind.i64 (0 : Int), V.str [], V.dsl (List.length (Prod.fst y7)) false (encs encStr (Prod.fst y7)),
                                V.dsl (List.length (Prod.fst (Prod.snd y7))) false (encs encJ (Prod.fst (Prod.snd y7)))])
                            [srcB (Prod.snd (Prod.snd y7))] [0])))) := (T.force_eq _).symm.trans (by kernel_rfl)

theorem blk1 {s s' : St} {ex : Ex} (h : LoopTo Try.prog 1 (lp Try.prog fJson 1) s ex s') : SoundC Try.prog 1 (blk Try.prog fJson 1) s ex s' := .loopTo h
theorem blk3 {s s' : St} {ex : Ex} (h : LoopTo Try.prog 1 (lp Try.prog fJson 3) s ex s') : SoundC Try.prog 1 (blk Try.prog fJson 3) s ex s' := .loopTo h

theorem drawList_ne {f : Src → J × Src} : ∀ (i : Nat) (x : Src) (L : List J), L ≠ [] → (drawList f i x L).1 ≠ []
  | 0, _, _, h => h
  | i + 1, x, L, h => by
    unfold drawList
    exact drawList_ne i _ _ (by simp)
theorem drawObj_len {f : Src → J × Src} : ∀ (t : List (List UInt8)) (x : Src) (ks : List (List UInt8)) (L : List J), ks.length = L.length → (drawObj f t x ks L).1.length = (drawObj f t x ks L).2.1.length
  | [], _, _, _, h => h
  | k :: t, x, ks, L, h => by
    unfold drawObj
    split
    · exact drawObj_len t _ _ _ (by simp [h])
    · exact drawObj_len t _ _ _ h
theorem drawList_cost {f : Src → J × Src} {d : Int} {q : Nat} (hf : Draw f d q) : ∀ (i : Nat) (x : Src) (L : List J) (c : Nat), x.OK (c + i * q) → (drawList f i x L).2.OK c
  | 0, x, L, c, h => by simpa [drawList] using h
  | i + 1, x, L, c, h => by
    unfold drawList
    refine drawList_cost hf i _ _ c (hf.cost x _ ?_)
    rw [Nat.add_mul, Nat.one_mul, ← Nat.add_assoc] at h; exact h
theorem drawObj_cost {f : Src → J × Src} {d : Int} {q : Nat} (hf : Draw f d q) : ∀ (t : List (List UInt8)) (x : Src) (ks : List (List UInt8)) (L : List J) (c : Nat), x.OK (c + t.length * (q + 3)) → (drawObj f t x ks L).2.2.OK c
  | [], x, ks, L, c, h => by simpa [drawObj] using h
  | k :: t, x, ks, L, c, h => by
    have hc : x.OK ((c + t.length * (q + 3) + q) + 3) := by
      refine h.less ?_
      rw [List.length_cons, Nat.add_mul, Nat.one_mul]; omega
    have hx := chanceF_ok (n := 2) hc (by omega)
    unfold drawObj
    split
    · exact drawObj_cost hf t _ _ _ c (hf.cost _ _ hx)
    · exact drawObj_cost hf t _ _ _ c (hx.less (by omega))

/-- The scalar kinds: what they cost. -/
theorem jsonK_cost {f : Src → J × Src} {d : Int} {q : Nat} {k : Int} (hf : 4 ≤ k → Draw f d q) {x : Src} {c : Nat} (h : x.OK (c + (4 * q + 15))) (hk : 0 ≤ k) : (jsonK f k x).2.OK c := by
  unfold jsonK
  split
  · exact h.less (by omega)
  · split
    · exact (nextF_ok (c := c) (h.less (by omega)) (by omega)).1
    · split
      · have h1 := nextF_ok (c := c + 3) (n := 20) (h.less (by omega)) (by omega)
        exact (nextF_ok (c := c) h1.1 (by omega)).1
      · split
        · exact (pickF_ok (c := c) (h.less (by omega)) (by simp [jsTexts])).1
        · split
          · have h1 := nextF_ok (c := c + 4 * q) (n := 4) (h.less (by omega)) (by omega)
            refine drawList_cost (hf (by omega)) _ _ _ c (h1.1.less ?_)
            have h3 : (nextF x 4).1.toNat ≤ 4 := by omega
            have := Nat.mul_le_mul_right q h3
            omega
          · exact drawObj_cost (hf (by omega)) _ _ _ _ c (h.less (by simp only [objKeys, List.length_cons, List.length_nil]; omega))

def qF : Nat → Nat
  | 0 => 21
  | d + 1 => 4 * qF d + 18
theorem num_at (a b : Int) (k : Int) (h : 0 ≤ k ∧ k < 2) : ([V.int .i64 a, .int .i64 b] : List V)[0 + k.toNat * 1]? = some (.int .i64 ([a, b].getD k.toNat 0)) := by
  have : k = 0 ∨ k = 1 := by omega
  rcases this with rfl | rfl <;> rfl

theorem json_zero : Draw (jsonF 0) 0 (qF 0) := by
  have hcost : ∀ (x : Src) (c : Nat), x.OK (c + 21) → (jsonF 0 x).2.OK c := by
    intro x c h
    have h1 := nextF_ok (c := c + 18) (n := 6) h (by omega)
    have h2 := nextF_ok (c := c + 15) (n := 4) h1.1 (by omega)
    exact jsonK_cost (q := 0) (d := 0) (fun h => by omega) h2.1 h2.2.1
  refine ⟨fun x c h => ?_, hcost⟩
  have h1 := nextF_ok (c := c + 18) (n := 6) h (by omega)
  have h2 := nextF_ok (c := c + 15) (n := 4) h1.1 (by omega)
  have h3 := nextF_ok (c := c + 12) (n := 20) h2.1 (by omega)
  have h4 := nextF_ok (c := c + 9) (n := 6) h3.1 (by omega)
  have h5 : 0 ≤ (nextF (nextF (nextF (nextF x 6).2 4).2 20).2 6).1.tdiv 5 := Int.tdiv_nonneg h4.2.1 (by omega)
  have h6 : (nextF (nextF (nextF (nextF x 6).2 4).2 20).2 6).1.tdiv 5 < 2 := by rw [Int.tdiv_eq_ediv_of_nonneg h4.2.1]; omega
  refine fnOK_TL (E := EK (jsonF 0) ([(nextF (nextF (nextF x 6).2 4).2 20).1 - 9, 1000000000].getD ((nextF (nextF (nextF (nextF x 6).2 4).2 20).2 6).1.tdiv 5).toNat 0)) follows named (json0T _ _ x) (by simp) ?_
  simp only [WP_cond, T.WP, All, decide_eq_true_eq, decide_eq_false_iff_not, and_true, beq_iff_eq, beq_eq_false_iff_ne, ne_eq, srcOf_mk, jsonF]
  intro y0 e0
  subst e0
  refine ⟨next_ok _ _ h, fun y1 e1 => ?_⟩
  subst e1
  refine ⟨next_ok _ _ h1.1, fun hk => ?_, fun hk => ⟨fun hk1 y2 e2 => ?_, fun hk1 => ⟨fun hk2 y2 e2 => ?_, fun hk2 => ⟨fun hk3 y2 e2 => ?_, fun hk3 => ⟨fun hk4 => by omega, fun hk4 => by omega⟩⟩⟩⟩⟩
  · simp only [jsonK, hk, if_true]; exact ⟨rfl, rfl, by simp⟩
  · subst e2
    refine ⟨next_ok _ _ h2.1, ?_⟩
    simp only [jsonK, hk1]; exact ⟨rfl, rfl, by simp⟩
  · subst e2
    refine ⟨next_ok _ _ h2.1, fun y3 e3 => ?_⟩
    subst e3
    refine ⟨next_ok _ _ h3.1, by omega, ?_⟩
    rw [wrap_id (n := (nextF (nextF (nextF x 6).2 4).2 20).1 - 9) (by omega), wrap_id (by omega)]
    refine ⟨⟨h5, h6⟩, num_at _ _ _ ⟨h5, h6⟩, ?_⟩
    simp only [jsonK, hk2]; exact ⟨rfl, rfl, by simp⟩
  · subst e2
    refine ⟨jsText_ok _ h2.1, ?_⟩
    simp only [jsonK, hk3]; exact ⟨rfl, rfl, by simp⟩

theorem json_succ {d : Nat} (hd : d ≤ 900) (ih : Draw (jsonF d) d (qF d)) : Draw (jsonF (d + 1)) ((d + 1 : Nat) : Int) (qF (d + 1)) := by
  have hcost : ∀ (x : Src) (c : Nat), x.OK (c + (4 * qF d + 18)) → (jsonF (d + 1) x).2.OK c := by
    intro x c h
    have h1 := nextF_ok (c := c + (4 * qF d + 15)) (n := 6) (h.less (by omega)) (by omega)
    exact jsonK_cost (fun _ => ih) h1.1 h1.2.1
  refine ⟨fun x c h => ?_, hcost⟩
  simp only [qF] at h
  have h2 := nextF_ok (c := c + (4 * qF d + 15)) (n := 6) (h.less (by omega)) (by omega)
  have h3 := nextF_ok (c := c + (4 * qF d + 12)) (n := 20) (h2.1.less (by omega)) (by omega)
  have h4 := nextF_ok (c := c + (4 * qF d + 9)) (n := 6) (h3.1.less (by omega)) (by omega)
  have h5 : 0 ≤ (nextF (nextF (nextF x 6).2 20).2 6).1.tdiv 5 := Int.tdiv_nonneg h4.2.1 (by omega)
  have h6 : (nextF (nextF (nextF x 6).2 20).2 6).1.tdiv 5 < 2 := by rw [Int.tdiv_eq_ediv_of_nonneg h4.2.1]; omega
  have h7 := nextF_ok (c := c + 4 * qF d) (n := 4) (h2.1.less (by omega)) (by omega)
  refine fnOK_TL (E := EK (jsonF d) ([(nextF (nextF x 6).2 20).1 - 9, 1000000000].getD ((nextF (nextF (nextF x 6).2 20).2 6).1.tdiv 5).toNat 0)) follows named (jsonST _ _ x d) (by simp) ?_
  simp only [WP_cond, T.WP, All, decide_eq_true_eq, decide_eq_false_iff_not, and_true, beq_iff_eq, beq_eq_false_iff_ne, ne_eq, srcOf_mk, jsonF]
  intro y1 e1
  subst e1
  refine ⟨next_ok (c := c) _ _ (h.less (by omega)), fun hk => ?_, fun hk => ⟨fun hk1 y2 e2 => ?_, fun hk1 => ⟨fun hk2 y2 e2 => ?_, fun hk2 => ⟨fun hk3 y2 e2 => ?_, fun hk3 => ⟨fun hk4 y2 e2 => ?_, fun hk4 y2 e2 => ?_⟩⟩⟩⟩⟩
  · simp only [jsonK, hk, if_true]; exact ⟨rfl, rfl, by simp⟩
  · subst e2
    refine ⟨next_ok (c := c) _ _ (h2.1.less (by omega)), ?_⟩
    simp only [jsonK, hk1]; exact ⟨rfl, rfl, by simp⟩
  · subst e2
    refine ⟨next_ok (c := c) _ _ (h2.1.less (by omega)), fun y3 e3 => ?_⟩
    subst e3
    refine ⟨next_ok (c := c) _ _ (h3.1.less (by omega)), by omega, ?_⟩
    rw [wrap_id (n := (nextF (nextF x 6).2 20).1 - 9) (by omega), wrap_id (by omega)]
    refine ⟨⟨h5, h6⟩, num_at _ _ _ ⟨h5, h6⟩, ?_⟩
    simp only [jsonK, hk2]; exact ⟨rfl, rfl, by simp⟩
  · subst e2
    refine ⟨jsText_ok (c := c) _ (h2.1.less (by omega)), ?_⟩
    simp only [jsonK, hk3]; exact ⟨rfl, rfl, by simp⟩
  · subst e2
    refine ⟨next_ok (c := c) _ _ (h2.1.less (by omega)), fun y3 e3 => ?_⟩
    have hi : (nextF (nextF x 6).2 4).1 = ((nextF (nextF x 6).2 4).1.toNat : Int) := by omega
    generalize hn : (nextF (nextF x 6).2 4).1.toNat = n at *
    refine ⟨trivial, fun hz => ?_, fun hz => ?_⟩
    · subst e3
      have hn0 : n = 0 := by
        rcases n with _ | n
        · rfl
        · exact absurd (List.isEmpty_iff.mp hz) (by unfold drawList; exact drawList_ne _ _ _ (by simp))
      subst hn0
      refine ⟨?_, ?_⟩
      · rw [hi]
        exact blk1 (list0_end (f := jsonF d) _ _)
      · have e : jsonK (jsonF d) (nextF x 6).1 (nextF x 6).2 = (.mk 4 0 [] [] [], (nextF (nextF x 6).2 4).2) := by
          simp only [jsonK, hk4, hn, drawList]; rfl
        rw [e]; exact ⟨rfl, rfl, by simp⟩
    · subst e3
      rcases n with _ | n
      · exact absurd hz (by simp [drawList])
      refine ⟨?_, ?_⟩
      · rw [hi]
        have := Nat.mul_le_mul_right (qF d) (show n + 1 ≤ 4 by omega)
        exact blk1 (list0_loop ih (by omega) n _ c (h7.1.less (by omega)) (by omega))
      · have e : jsonK (jsonF d) (nextF x 6).1 (nextF x 6).2 = (.mk 4 0 [] [] (drawList (jsonF d) (n + 1) (nextF (nextF x 6).2 4).2 []).1, (drawList (jsonF d) (n + 1) (nextF (nextF x 6).2 4).2 []).2) := by
          simp only [jsonK, hk4, hn]; rfl
        rw [e]; exact ⟨rfl, rfl, by simp⟩
  · subst e2
    have hk5 : jsonK (jsonF d) (nextF x 6).1 (nextF x 6).2 = (.mk 5 0 [] (drawObj (jsonF d) objKeys (nextF x 6).2 [] []).1 (drawObj (jsonF d) objKeys (nextF x 6).2 [] []).2.1, (drawObj (jsonF d) objKeys (nextF x 6).2 [] []).2.2) := by
      simp only [jsonK, hk, hk1, hk2, hk3, hk4, if_false]
    rw [hk5]
    have hl := blk3 (obj0_loop ih (by omega) objKeys 0 (nextF x 6).2 c rfl rfl (h2.1.less (by simp only [objKeys, List.length_cons, List.length_nil]; omega)))
    refine ⟨trivial, fun hz => ?_, fun hz => ?_⟩
    · have hz1 : (drawObj (jsonF d) objKeys (nextF x 6).2 [] []).1 = [] := List.isEmpty_iff.mp hz
      have hz2 : (drawObj (jsonF d) objKeys (nextF x 6).2 [] []).2.1 = [] := by
        have := drawObj_len (f := jsonF d) objKeys (nextF x 6).2 [] [] rfl
        rw [hz1] at this; exact List.length_eq_zero_iff.mp this.symm
      rw [hz1, hz2] at hl ⊢
      exact ⟨hl, ⟨rfl, rfl, by simp⟩⟩
    · have hz' : (drawObj (jsonF d) objKeys (nextF x 6).2 [] []).1 ≠ [] := fun e => by rw [show (drawObj (jsonF d) [[97], [98], [107], [122, 122]] (nextF x 6).2 [] []).1 = [] from e] at hz; cases hz
      rw [stO_ne _ _ _ _ _ hz'] at hl
      exact ⟨hl, ⟨rfl, rfl, by simp⟩⟩

theorem json_draw : ∀ (d : Nat), d ≤ 900 → Draw (jsonF d) d (qF d)
  | 0, _ => json_zero
  | d + 1, h => json_succ (by omega) (json_draw d (by omega))

end Go.Proofs.Ytopebociobgmhaa

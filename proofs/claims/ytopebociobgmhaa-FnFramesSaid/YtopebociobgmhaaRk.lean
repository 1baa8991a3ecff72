/-
  The reference's framer.
-/
import Derived.Test.YtopebociobgmhaaRj
import Derived.Test.YtopebociobgmhaaFrPure
namespace Go.Proofs.Ytopebociobgmhaa
open Go.RowKit

def vwF (f : Fr.F) : List V := [.str f.buf, .int .i64 f.depth, .bool f.quote, .bool f.skip, .bool f.closed]
abbrev fSByte : Nat := 34
abbrev fSFeed : Nat := 27
abbrev fSFeedAll : Nat := 15

set_option maxRecDepth 100000 in
theorem sbyteT (f : Fr.F) (b : UInt8) : fnT E0 0 fSByte [.agg (vwF f), .int .u8 (b.toNat : Nat)] [] =
  bif Fr.F.depth f == (0 : Int) then
    bif (↑(UInt8.toNat b) : Int) == (32 : Int) then
      T.done (Ret.mk (V.tup [V.agg [V.str (Fr.F.buf f), V.int IntKind.i64 (Fr.F.depth f), V.bool (Fr.F.quote f), V.bool (Fr.F.skip f), V.bool (Fr.F.closed f)], V.bool false]) [] [])
    else
      bif (↑(UInt8.toNat b) : Int) == (9 : Int) then
        T.done (Ret.mk (V.tup [V.agg [V.str (Fr.F.buf f), V.int IntKind.i64 (Fr.F.depth f), V.bool (Fr.F.quote f), V.bool (Fr.F.skip f), V.bool (Fr.F.closed f)], V.bool false]) [] [])
      else
        bif (↑(UInt8.toNat b) : Int) == (10 : Int) then
          T.done (Ret.mk (V.tup [V.agg [V.str (Fr.F.buf f), V.int IntKind.i64 (Fr.F.depth f), V.bool (Fr.F.quote f), V.bool (Fr.F.skip f), V.bool (Fr.F.closed f)], V.bool false]) [] [])
        else
          bif (↑(UInt8.toNat b) : Int) == (13 : Int) then
            T.done (Ret.mk (V.tup [V.agg [V.str (Fr.F.buf f), V.int IntKind.i64 (Fr.F.depth f), V.bool (Fr.F.quote f), V.bool (Fr.F.skip f), V.bool (Fr.F.closed f)], V.bool false]) [] [])
          else
            bif (↑(UInt8.toNat b) : Int) != (123 : Int) then
              bif (↑(UInt8.toNat b) : Int) != (91 : Int) then T.done (Ret.mk (V.tup [V.agg [V.str [], V.int IntKind.i64 (0 : Int), V.bool false, V.bool false, V.bool true], V.bool false]) [] [])
              else
                T.need [(0 : Int) ≤ (↑(UInt8.toNat b) : Int) ∧ (↑(UInt8.toNat b) : Int) < (256 : Int), 0 = 0, 1 = 1]
                  (T.need [List.length (Fr.F.buf f) + 1 ≤ 4611686018427387904]
                    (bif decide ((↑(List.length (Fr.F.buf f ++ [UInt8.ofNat (Int.toNat (↑(UInt8.toNat b) : Int))])) : Int) > (3000 : Int)) then
                      T.done (Ret.mk (V.tup [V.agg [V.str [], V.int IntKind.i64 (0 : Int), V.bool false, V.bool false, V.bool true], V.bool false]) [] [])
                    else
                      bif Fr.F.skip f then
                        T.done
                          (Ret.mk
                            (V.tup
                              [V.agg [V.str (Fr.F.buf f ++ [UInt8.ofNat (Int.toNat (↑(UInt8.toNat b) : Int))]), V.int IntKind.i64 (Fr.F.depth f), V.bool (Fr.F.quote f), V.bool false, V.bool (Fr.F.closed f)], V.bool false])
                            [] [])
                      else
                        bif Fr.F.quote f then
                          bif (↑(UInt8.toNat b) : Int) == (92 : Int) then
                            T.done
                              (Ret.mk
                                (V.tup
                                  [V.agg [V.str (Fr.F.buf f ++ [UInt8.ofNat (Int.toNat (↑(UInt8.toNat b) : Int))]), V.int IntKind.i64 (Fr.F.depth f), V.bool (Fr.F.quote f), V.bool true, V.bool (Fr.F.closed f)],
                                    V.bool false])
                                [] [])
                          else
                            bif (↑(UInt8.toNat b) : Int) == (34 : Int) then
                              T.done
                                (Ret.mk
                                  (V.tup
                                    [V.agg [V.str (Fr.F.buf f ++ [UInt8.ofNat (Int.toNat (↑(UInt8.toNat b) : Int))]), V.int IntKind.i64 (Fr.F.depth f), V.bool !Fr.F.quote f, V.bool (Fr.F.skip f), V.bool (Fr.F.closed f)],
                                      V.bool false])
                                  [] [])
                            else
                              bif Fr.F.quote f then
                                T.done
                                  (Ret.mk
                                    (V.tup
                                      [V.agg
                                          [V.str (Fr.F.buf f ++ [UInt8.ofNat (Int.toNat (↑(UInt8.toNat b) : Int))]), V.int IntKind.i64 (Fr.F.depth f), V.bool (Fr.F.quote f), V.bool (Fr.F.skip f), V.bool (Fr.F.closed f)],
                                        V.bool false])
                                    [] [])
                              else
                                bif (↑(UInt8.toNat b) : Int) == (123 : Int) then
                                  bif decide (IntKind.wrap IntKind.i64 (Fr.F.depth f + (1 : Int)) > (12 : Int)) then
                                    T.done (Ret.mk (V.tup [V.agg [V.str [], V.int IntKind.i64 (0 : Int), V.bool false, V.bool false, V.bool true], V.bool false]) [] [])
                                  else
                                    T.done
                                      (Ret.mk
                                        (V.tup
                                          [V.agg
                                              [V.str (Fr.F.buf f ++ [UInt8.ofNat (Int.toNat (↑(UInt8.toNat b) : Int))]), V.int IntKind.i64 (IntKind.wrap IntKind.i64 (Fr.F.depth f + (1 : Int))), V.bool (Fr.F.quote f),
                                                V.bool (Fr.F.skip f), V.bool (Fr.F.closed f)],
                                            V.bool false])
                                        [] [])
                                else
                                  bif (↑(UInt8.toNat b) : Int) == (91 : Int) then
                                    bif decide (IntKind.wrap IntKind.i64 (Fr.F.depth f + (1 : Int)) > (12 : Int)) then
                                      T.done (Ret.mk (V.tup [V.agg [V.str [], V.int IntKind.i64 (0 : Int), V.bool false, V.bool false, V.bool true], V.bool false]) [] [])
                                    else
                                      T.done
                                        (Ret.mk
                                          (V.tup
                                            [V.agg
                                                [V.str (Fr.F.buf f ++ [UInt8.ofNat (Int.toNat (↑(UInt8.toNat b) : Int))]), V.int IntKind.i64 (IntKind.wrap IntKind.i64 (Fr.F.depth f + (1 : Int))), V.bool (Fr.F.quote f),
                                                  V.bool (Fr.F.skip f), V.bool (Fr.F.closed f)],
                                              V.bool false])
                                          [] [])
                                  else
                                    bif (↑(UInt8.toNat b) : Int) == (125 : Int) then
                                      T.done
                                        (Ret.mk
                                          (V.tup
                                            [V.agg
                                                [V.str (Fr.F.buf f ++ [UInt8.ofNat (Int.toNat (↑(UInt8.toNat b) : Int))]), V.int IntKind.i64 (IntKind.wrap IntKind.i64 (Fr.F.depth f - (1 : Int))), V.bool (Fr.F.quote f),
                                                  V.bool (Fr.F.skip f), V.bool (Fr.F.closed f)],
                                              V.bool (IntKind.wrap IntKind.i64 (Fr.F.depth f - (1 : Int)) == (0 : Int))])
                                          [] [])
                                    else
                                      bif (↑(UInt8.toNat b) : Int) == (93 : Int) then
                                        T.done
                                          (Ret.mk
                                            (V.tup
                                              [V.agg
                                                  [V.str (Fr.F.buf f ++ [UInt8.ofNat (Int.toNat (↑(UInt8.toNat b) : Int))]), V.int IntKind.i64 (IntKind.wrap IntKind.i64 (Fr.F.depth f - (1 : Int))), V.bool (Fr.F.quote f),
                                                    V.bool (Fr.F.skip f), V.bool (Fr.F.closed f)],
                                                V.bool (IntKind.wrap IntKind.i64 (Fr.F.depth f - (1 : Int)) == (0 : Int))])
                                            [] [])
                                      else
                                        T.done
                                          (Ret.mk
                                            (V.tup
                                              [V.agg
                                                  [V.str (Fr.F.buf f ++ [UInt8.ofNat (Int.toNat (↑(UInt8.toNat b) : Int))]), V.int IntKind.i64 (Fr.F.depth f), V.bool (Fr.F.quote f), V.bool (Fr.F.skip f),
                                                    V.bool (Fr.F.closed f)],
                                                V.bool false])
                                            [] [])
                        else
                          bif (↑(UInt8.toNat b) : Int) == (34 : Int) then
                            T.done
                              (Ret.mk
                                (V.tup
                                  [V.agg [V.str (Fr.F.buf f ++ [UInt8.ofNat (Int.toNat (↑(UInt8.toNat b) : Int))]), V.int IntKind.i64 (Fr.F.depth f), V.bool !Fr.F.quote f, V.bool (Fr.F.skip f), V.bool (Fr.F.closed f)],
                                    V.bool false])
                                [] [])
                          else
                            bif Fr.F.quote f then
                              T.done
                                (Ret.mk
                                  (V.tup
                                    [V.agg [V.str (Fr.F.buf f ++ [UInt8.ofNat (Int.toNat (↑(UInt8.toNat b) : Int))]), V.int IntKind.i64 (Fr.F.depth f), V.bool (Fr.F.quote f), V.bool (Fr.F.skip f), V.bool (Fr.F.closed f)],
                                      V.bool false])
                                  [] [])
                            else
                              bif (↑(UInt8.toNat b) : Int) == (123 : Int) then
                                bif decide (IntKind.wrap IntKind.i64 (Fr.F.depth f + (1 : Int)) > (12 : Int)) then
                                  T.done (Ret.mk (V.tup [V.agg [V.str [], V.int IntKind.i64 (0 : Int), V.bool false, V.bool false, V.bool true], V.bool false]) [] [])
                                else
                                  T.done
                                    (Ret.mk
                                      (V.tup
                                        [V.agg
                                            [V.str (Fr.F.buf f ++ [UInt8.ofNat (Int.toNat (↑(UInt8.toNat b) : Int))]), V.int IntKind.i64 (IntKind.wrap IntKind.i64 (Fr.F.depth f + (1 : Int))), V.bool (Fr.F.quote f),
                                              V.bool (Fr.F.skip f), V.bool (Fr.F.closed f)],
                                          V.bool false])
                                      [] [])
                              else
                                bif (↑(UInt8.toNat b) : Int) == (91 : Int) then
                                  bif decide (IntKind.wrap IntKind.i64 (Fr.F.depth f + (1 : Int)) > (12 : Int)) then
                                    T.done (Ret.mk (V.tup [V.agg [V.str [], V.int IntKind.i64 (0 : Int), V.bool false, V.bool false, V.bool true], V.bool false]) [] [])
                                  else
                                    T.done
                                      (Ret.mk
                                        (V.tup
                                          [V.agg
                                              [V.str (Fr.F.buf f ++ [UInt8.ofNat (Int.toNat (↑(UInt8.toNat b) : Int))]), V.int IntKind.i64 (IntKind.wrap IntKind.i64 (Fr.F.depth f + (1 : Int))), V.bool (Fr.F.quote f),
                                                V.bool (Fr.F.skip f), V.bool (Fr.F.closed f)],
                                            V.bool false])
                                        [] [])
                                else
                                  bif (↑(UInt8.toNat b) : Int) == (125 : Int) then
                                    T.done
                                      (Ret.mk
                                        (V.tup
                                          [V.agg
                                              [V.str (Fr.F.buf f ++ [UInt8.ofNat (Int.toNat (↑(UInt8.toNat b) : Int))]), V.int IntKind.i64 (IntKind.wrap IntKind.i64 (Fr.F.depth f - (1 : Int))), V.bool (Fr.F.quote f),
                                                V.bool (Fr.F.skip f), V.bool (Fr.F.closed f)],
                                            V.bool (IntKind.wrap IntKind.i64 (Fr.F.depth f - (1 : Int)) == (0 : Int))])
                                        [] [])
                                  else
                                    bif (↑(UInt8.toNat b) : Int) == (93 : Int) then
                                      T.done
                                        (Ret.mk
                                          (V.tup
                                            [V.agg
                                                [V.str (Fr.F.buf f ++ [UInt8.ofNat (Int.toNat (↑(UInt8.toNat b) : Int))]), V.int IntKind.i64 (IntKind.wrap IntKind.i64 (Fr.F.depth f - (1 : Int))), V.bool (Fr.F.quote f),
                                                  V.bool (Fr.F.skip f), V.bool (Fr.F.closed f)],
                                              V.bool (IntKind.wrap IntKind.i64 (Fr.F.depth f - (1 : Int)) == (0 : Int))])
                                          [] [])
                                    else
                                      T.done
                                        (Ret.mk
                                          (V.tup
                                            [V.agg
                                                [V.str (Fr.F.buf f ++ [UInt8.ofNat (Int.toNat (↑(UInt8.toNat b) : Int))]), V.int IntKind.i64 (Fr.F.depth f), V.bool (Fr.F.quote f), V.bool (Fr.F.skip f),
                                                  V.bool (Fr.F.closed f)],
                                              V.bool false])
                                          [] [])))
            else
              T.need [(0 : Int) ≤ (↑(UInt8.toNat b) : Int) ∧ (↑(UInt8.toNat b) : Int) < (256 : Int), 0 = 0, 1 = 1]
                (T.need [List.length (Fr.F.buf f) + 1 ≤ 4611686018427387904]
                  (bif decide ((↑(List.length (Fr.F.buf f ++ [UInt8.ofNat (Int.toNat (↑(UInt8.toNat b) : Int))])) : Int) > (3000 : Int)) then
                    T.done (Ret.mk (V.tup [V.agg [V.str [], V.int IntKind.i64 (0 : Int), V.bool false, V.bool false, V.bool true], V.bool false]) [] [])
                  else
                    bif Fr.F.skip f then
                      T.done
                        (Ret.mk
                          (V.tup
                            [V.agg [V.str (Fr.F.buf f ++ [UInt8.ofNat (Int.toNat (↑(UInt8.toNat b) : Int))]), V.int IntKind.i64 (Fr.F.depth f), V.bool (Fr.F.quote f), V.bool false, V.bool (Fr.F.closed f)], V.bool false])
                          [] [])
                    else
                      bif Fr.F.quote f then
                        bif (↑(UInt8.toNat b) : Int) == (92 : Int) then
                          T.done
                            (Ret.mk
                              (V.tup
                                [V.agg [V.str (Fr.F.buf f ++ [UInt8.ofNat (Int.toNat (↑(UInt8.toNat b) : Int))]), V.int IntKind.i64 (Fr.F.depth f), V.bool (Fr.F.quote f), V.bool true, V.bool (Fr.F.closed f)],
                                  V.bool false])
                              [] [])
                        else
                          bif (↑(UInt8.toNat b) : Int) == (34 : Int) then
                            T.done
                              (Ret.mk
                                (V.tup
                                  [V.agg [V.str (Fr.F.buf f ++ [UInt8.ofNat (Int.toNat (↑(UInt8.toNat b) : Int))]), V.int IntKind.i64 (Fr.F.depth f), V.bool !Fr.F.quote f, V.bool (Fr.F.skip f), V.bool (Fr.F.closed f)],
                                    V.bool false])
                                [] [])
                          else
                            bif Fr.F.quote f then
                              T.done
                                (Ret.mk
                                  (V.tup
                                    [V.agg [V.str (Fr.F.buf f ++ [UInt8.ofNat (Int.toNat (↑(UInt8.toNat b) : Int))]), V.int IntKind.i64 (Fr.F.depth f), V.bool (Fr.F.quote f), V.bool (Fr.F.skip f), V.bool (Fr.F.closed f)],
                                      V.bool false])
                                  [] [])
                            else
                              bif (↑(UInt8.toNat b) : Int) == (123 : Int) then
                                bif decide (IntKind.wrap IntKind.i64 (Fr.F.depth f + (1 : Int)) > (12 : Int)) then
                                  T.done (Ret.mk (V.tup [V.agg [V.str [], V.int IntKind.i64 (0 : Int), V.bool false, V.bool false, V.bool true], V.bool false]) [] [])
                                else
                                  T.done
                                    (Ret.mk
                                      (V.tup
                                        [V.agg
                                            [V.str (Fr.F.buf f ++ [UInt8.ofNat (Int.toNat (↑(UInt8.toNat b) : Int))]), V.int IntKind.i64 (IntKind.wrap IntKind.i64 (Fr.F.depth f + (1 : Int))), V.bool (Fr.F.quote f),
                                              V.bool (Fr.F.skip f), V.bool (Fr.F.closed f)],
                                          V.bool false])
                                      [] [])
                              else
                                bif (↑(UInt8.toNat b) : Int) == (91 : Int) then
                                  bif decide (IntKind.wrap IntKind.i64 (Fr.F.depth f + (1 : Int)) > (12 : Int)) then
                                    T.done (Ret.mk (V.tup [V.agg [V.str [], V.int IntKind.i64 (0 : Int), V.bool false, V.bool false, V.bool true], V.bool false]) [] [])
                                  else
                                    T.done
                                      (Ret.mk
                                        (V.tup
                                          [V.agg
                                              [V.str (Fr.F.buf f ++ [UInt8.ofNat (Int.toNat (↑(UInt8.toNat b) : Int))]), V.int IntKind.i64 (IntKind.wrap IntKind.i64 (Fr.F.depth f + (1 : Int))), V.bool (Fr.F.quote f),
                                                V.bool (Fr.F.skip f), V.bool (Fr.F.closed f)],
                                            V.bool false])
                                        [] [])
                                else
                                  bif (↑(UInt8.toNat b) : Int) == (125 : Int) then
                                    T.done
                                      (Ret.mk
                                        (V.tup
                                          [V.agg
                                              [V.str (Fr.F.buf f ++ [UInt8.ofNat (Int.toNat (↑(UInt8.toNat b) : Int))]), V.int IntKind.i64 (IntKind.wrap IntKind.i64 (Fr.F.depth f - (1 : Int))), V.bool (Fr.F.quote f),
                                                V.bool (Fr.F.skip f), V.bool (Fr.F.closed f)],
                                            V.bool (IntKind.wrap IntKind.i64 (Fr.F.depth f - (1 : Int)) == (0 : Int))])
                                        [] [])
                                  else
                                    bif (↑(UInt8.toNat b) : Int) == (93 : Int) then
                                      T.done
                                        (Ret.mk
                                          (V.tup
                                            [V.agg
                                                [V.str (Fr.F.buf f ++ [UInt8.ofNat (Int.toNat (↑(UInt8.toNat b) : Int))]), V.int IntKind.i64 (IntKind.wrap IntKind.i64 (Fr.F.depth f - (1 : Int))), V.bool (Fr.F.quote f),
                                                  V.bool (Fr.F.skip f), V.bool (Fr.F.closed f)],
                                              V.bool (IntKind.wrap IntKind.i64 (Fr.F.depth f - (1 : Int)) == (0 : Int))])
                                          [] [])
                                    else
                                      T.done
                                        (Ret.mk
                                          (V.tup
                                            [V.agg
                                                [V.str (Fr.F.buf f ++ [UInt8.ofNat (Int.toNat (↑(UInt8.toNat b) : Int))]), V.int IntKind.i64 (Fr.F.depth f), V.bool (Fr.F.quote f), V.bool (Fr.F.skip f),
                                                  V.bool (Fr.F.closed f)],
                                              V.bool false])
                                          [] [])
                      else
                        bif (↑(UInt8.toNat b) : Int) == (34 : Int) then
                          T.done
                            (Ret.mk
                              (V.tup
                                [V.agg [V.str (Fr.F.buf f ++ [UInt8.ofNat (Int.toNat (↑(UInt8.toNat b) : Int))]), V.int IntKind.i64 (Fr.F.depth f), V.bool !Fr.F.quote f, V.bool (Fr.F.skip f), V.bool (Fr.F.closed f)],
                                  V.bool false])
                              [] [])
                        else
                          bif Fr.F.quote f then
                            T.done
                              (Ret.mk
                                (V.tup
                                  [V.agg [V.str (Fr.F.buf f ++ [UInt8.ofNat (Int.toNat (↑(UInt8.toNat b) : Int))]), V.int IntKind.i64 (Fr.F.depth f), V.bool (Fr.F.quote f), V.bool (Fr.F.skip f), V.bool (Fr.F.closed f)],
                                    V.bool false])
                                [] [])
                          else
                            bif (↑(UInt8.toNat b) : Int) == (123 : Int) then
                              bif decide (IntKind.wrap IntKind.i64 (Fr.F.depth f + (1 : Int)) > (12 : Int)) then
                                T.done (Ret.mk (V.tup [V.agg [V.str [], V.int IntKind.i64 (0 : Int), V.bool false, V.bool false, V.bool true], V.bool false]) [] [])
                              else
                                T.done
                                  (Ret.mk
                                    (V.tup
                                      [V.agg
                                          [V.str (Fr.F.buf f ++ [UInt8.ofNat (Int.toNat (↑(UInt8.toNat b) : Int))]), V.int IntKind.i64 (IntKind.wrap IntKind.i64 (Fr.F.depth f + (1 : Int))), V.bool (Fr.F.quote f),
                                            V.bool (Fr.F.skip f), V.bool (Fr.F.closed f)],
                                        V.bool false])
                                    [] [])
                            else
                              bif (↑(UInt8.toNat b) : Int) == (91 : Int) then
                                bif decide (IntKind.wrap IntKind.i64 (Fr.F.depth f + (1 : Int)) > (12 : Int)) then
                                  T.done (Ret.mk (V.tup [V.agg [V.str [], V.int IntKind.i64 (0 : Int), V.bool false, V.bool false, V.bool true], V.bool false]) [] [])
                                else
                                  T.done
                                    (Ret.mk
                                      (V.tup
                                        [V.agg
                                            [V.str (Fr.F.buf f ++ [UInt8.ofNat (Int.toNat (↑(UInt8.toNat b) : Int))]), V.int IntKind.i64 (IntKind.wrap IntKind.i64 (Fr.F.depth f + (1 : Int))), V.bool (Fr.F.quote f),
                                              V.bool (Fr.F.skip f), V.bool (Fr.F.closed f)],
                                          V.bool false])
                                      [] [])
                              else
                                bif (↑(UInt8.toNat b) : Int) == (125 : Int) then
                                  T.done
                                    (Ret.mk
                                      (V.tup
                                        [V.agg
                                            [V.str (Fr.F.buf f ++ [UInt8.ofNat (Int.toNat (↑(UInt8.toNat b) : Int))]), V.int IntKind.i64 (IntKind.wrap IntKind.i64 (Fr.F.depth f - (1 : Int))), V.bool (Fr.F.quote f),
                                              V.bool (Fr.F.skip f), V.bool (Fr.F.closed f)],
                                          V.bool (IntKind.wrap IntKind.i64 (Fr.F.depth f - (1 : Int)) == (0 : Int))])
                                      [] [])
                                else
                                  bif (↑(UInt8.toNat b) : Int) == (93 : Int) then
                                    T.done
                                      (Ret.mk
                                        (V.tup
                                          [V.agg
                                              [V.str (Fr.F.buf f ++ [UInt8.ofNat (Int.toNat (↑(UInt8.toNat b) : Int))]), V.int IntKind.i64 (IntKind.wrap IntKind.i64 (Fr.F.depth f - (1 : Int))), V.bool (Fr.F.quote f),
                                                V.bool (Fr.F.skip f), V.bool (Fr.F.closed f)],
                                            V.bool (IntKind.wrap IntKind.i64 (Fr.F.depth f - (1 : Int)) == (0 : Int))])
                                        [] [])
                                  else
                                    T.done
                                      (Ret.mk
                                        (V.tup
                                          [V.agg
                                              [V.str (Fr.F.buf f ++ [UInt8.ofNat (Int.toNat (↑(UInt8.toNat b) : Int))]), V.int IntKind.i64 (Fr.F.depth f), V.bool (Fr.F.quote f), V.bool (Fr.F.skip f),
                                                V.bool (Fr.F.closed f)],
                                            V.bool false])
                                        [] [])))
  else
    T.need [(0 : Int) ≤ (↑(UInt8.toNat b) : Int) ∧ (↑(UInt8.toNat b) : Int) < (256 : Int), 0 = 0, 1 = 1]
      (T.need [List.length (Fr.F.buf f) + 1 ≤ 4611686018427387904]
        (bif decide ((↑(List.length (Fr.F.buf f ++ [UInt8.ofNat (Int.toNat (↑(UInt8.toNat b) : Int))])) : Int) > (3000 : Int)) then
          T.done (Ret.mk (V.tup [V.agg [V.str [], V.int IntKind.i64 (0 : Int), V.bool false, V.bool false, V.bool true], V.bool false]) [] [])
        else
          bif Fr.F.skip f then
            T.done
              (Ret.mk (V.tup [V.agg [V.str (Fr.F.buf f ++ [UInt8.ofNat (Int.toNat (↑(UInt8.toNat b) : Int))]), V.int IntKind.i64 (Fr.F.depth f), V.bool (Fr.F.quote f), V.bool false, V.bool (Fr.F.closed f)], V.bool false])
                [] [])
          else
            bif Fr.F.quote f then
              bif (↑(UInt8.toNat b) : Int) == (92 : Int) then
                T.done
                  (Ret.mk
                    (V.tup [V.agg [V.str (Fr.F.buf f ++ [UInt8.ofNat (Int.toNat (↑(UInt8.toNat b) : Int))]), V.int IntKind.i64 (Fr.F.depth f), V.bool (Fr.F.quote f), V.bool true, V.bool (Fr.F.closed f)], V.bool false]) []
                    [])
              else
                bif (↑(UInt8.toNat b) : Int) == (34 : Int) then
                  T.done
                    (Ret.mk
                      (V.tup
                        [V.agg [V.str (Fr.F.buf f ++ [UInt8.ofNat (Int.toNat (↑(UInt8.toNat b) : Int))]), V.int IntKind.i64 (Fr.F.depth f), V.bool !Fr.F.quote f, V.bool (Fr.F.skip f), V.bool (Fr.F.closed f)],
                          V.bool false])
                      [] [])
                else
                  bif Fr.F.quote f then
                    T.done
                      (Ret.mk
                        (V.tup
                          [V.agg [V.str (Fr.F.buf f ++ [UInt8.ofNat (Int.toNat (↑(UInt8.toNat b) : Int))]), V.int IntKind.i64 (Fr.F.depth f), V.bool (Fr.F.quote f), V.bool (Fr.F.skip f), V.bool (Fr.F.closed f)],
                            V.bool false])
                        [] [])
                  else
                    bif (↑(UInt8.toNat b) : Int) == (123 : Int) then
                      bif decide (IntKind.wrap IntKind.i64 (Fr.F.depth f + (1 : Int)) > (12 : Int)) then
                        T.done (Ret.mk (V.tup [V.agg [V.str [], V.int IntKind.i64 (0 : Int), V.bool false, V.bool false, V.bool true], V.bool false]) [] [])
                      else
                        T.done
                          (Ret.mk
                            (V.tup
                              [V.agg
                                  [V.str (Fr.F.buf f ++ [UInt8.ofNat (Int.toNat (↑(UInt8.toNat b) : Int))]), V.int IntKind.i64 (IntKind.wrap IntKind.i64 (Fr.F.depth f + (1 : Int))), V.bool (Fr.F.quote f),
                                    V.bool (Fr.F.skip f), V.bool (Fr.F.closed f)],
                                V.bool false])
                            [] [])
                    else
                      bif (↑(UInt8.toNat b) : Int) == (91 : Int) then
                        bif decide (IntKind.wrap IntKind.i64 (Fr.F.depth f + (1 : Int)) > (12 : Int)) then
                          T.done (Ret.mk (V.tup [V.agg [V.str [], V.int IntKind.i64 (0 : Int), V.bool false, V.bool false, V.bool true], V.bool false]) [] [])
                        else
                          T.done
                            (Ret.mk
                              (V.tup
                                [V.agg
                                    [V.str (Fr.F.buf f ++ [UInt8.ofNat (Int.toNat (↑(UInt8.toNat b) : Int))]), V.int IntKind.i64 (IntKind.wrap IntKind.i64 (Fr.F.depth f + (1 : Int))), V.bool (Fr.F.quote f),
                                      V.bool (Fr.F.skip f), V.bool (Fr.F.closed f)],
                                  V.bool false])
                              [] [])
                      else
                        bif (↑(UInt8.toNat b) : Int) == (125 : Int) then
                          T.done
                            (Ret.mk
                              (V.tup
                                [V.agg
                                    [V.str (Fr.F.buf f ++ [UInt8.ofNat (Int.toNat (↑(UInt8.toNat b) : Int))]), V.int IntKind.i64 (IntKind.wrap IntKind.i64 (Fr.F.depth f - (1 : Int))), V.bool (Fr.F.quote f),
                                      V.bool (Fr.F.skip f), V.bool (Fr.F.closed f)],
                                  V.bool (IntKind.wrap IntKind.i64 (Fr.F.depth f - (1 : Int)) == (0 : Int))])
                              [] [])
                        else
                          bif (↑(UInt8.toNat b) : Int) == (93 : Int) then
                            T.done
                              (Ret.mk
                                (V.tup
                                  [V.agg
                                      [V.str (Fr.F.buf f ++ [UInt8.ofNat (Int.toNat (↑(UInt8.toNat b) : Int))]), V.int IntKind.i64 (IntKind.wrap IntKind.i64 (Fr.F.depth f - (1 : Int))), V.bool (Fr.F.quote f),
                                        V.bool (Fr.F.skip f), V.bool (Fr.F.closed f)],
                                    V.bool (IntKind.wrap IntKind.i64 (Fr.F.depth f - (1 : Int)) == (0 : Int))])
                                [] [])
                          else
                            T.done
                              (Ret.mk
                                (V.tup
                                  [V.agg [V.str (Fr.F.buf f ++ [UInt8.ofNat (Int.toNat (↑(UInt8.toNat b) : Int))]), V.int IntKind.i64 (Fr.F.depth f), V.bool (Fr.F.quote f), V.bool (Fr.F.skip f), V.bool (Fr.F.closed f)],
                                    V.bool false])
                                [] [])
            else
              bif (↑(UInt8.toNat b) : Int) == (34 : Int) then
                T.done
                  (Ret.mk
                    (V.tup
                      [V.agg [V.str (Fr.F.buf f ++ [UInt8.ofNat (Int.toNat (↑(UInt8.toNat b) : Int))]), V.int IntKind.i64 (Fr.F.depth f), V.bool !Fr.F.quote f, V.bool (Fr.F.skip f), V.bool (Fr.F.closed f)], V.bool false])
                    [] [])
              else
                bif Fr.F.quote f then
                  T.done
                    (Ret.mk
                      (V.tup
                        [V.agg [V.str (Fr.F.buf f ++ [UInt8.ofNat (Int.toNat (↑(UInt8.toNat b) : Int))]), V.int IntKind.i64 (Fr.F.depth f), V.bool (Fr.F.quote f), V.bool (Fr.F.skip f), V.bool (Fr.F.closed f)],
                          V.bool false])
                      [] [])
                else
                  bif (↑(UInt8.toNat b) : Int) == (123 : Int) then
                    bif decide (IntKind.wrap IntKind.i64 (Fr.F.depth f + (1 : Int)) > (12 : Int)) then
                      T.done (Ret.mk (V.tup [V.agg [V.str [], V.int IntKind.i64 (0 : Int), V.bool false, V.bool false, V.bool true], V.bool false]) [] [])
                    else
                      T.done
                        (Ret.mk
                          (V.tup
                            [V.agg
                                [V.str (Fr.F.buf f ++ [UInt8.ofNat (Int.toNat (↑(UInt8.toNat b) : Int))]), V.int IntKind.i64 (IntKind.wrap IntKind.i64 (Fr.F.depth f + (1 : Int))), V.bool (Fr.F.quote f),
                                  V.bool (Fr.F.skip f), V.bool (Fr.F.closed f)],
                              V.bool false])
                          [] [])
                  else
                    bif (↑(UInt8.toNat b) : Int) == (91 : Int) then
                      bif decide (IntKind.wrap IntKind.i64 (Fr.F.depth f + (1 : Int)) > (12 : Int)) then
                        T.done (Ret.mk (V.tup [V.agg [V.str [], V.int IntKind.i64 (0 : Int), V.bool false, V.bool false, V.bool true], V.bool false]) [] [])
                      else
                        T.done
                          (Ret.mk
                            (V.tup
                              [V.agg
                                  [V.str (Fr.F.buf f ++ [UInt8.ofNat (Int.toNat (↑(UInt8.toNat b) : Int))]), V.int IntKind.i64 (IntKind.wrap IntKind.i64 (Fr.F.depth f + (1 : Int))), V.bool (Fr.F.quote f),
                                    V.bool (Fr.F.skip f), V.bool (Fr.F.closed f)],
                                V.bool false])
                            [] [])
                    else
                      bif (↑(UInt8.toNat b) : Int) == (125 : Int) then
                        T.done
                          (Ret.mk
                            (V.tup
                              [V.agg
                                  [V.str (Fr.F.buf f ++ [UInt8.ofNat (Int.toNat (↑(UInt8.toNat b) : Int))]), V.int IntKind.i64 (IntKind.wrap IntKind.i64 (Fr.F.depth f - (1 : Int))), V.bool (Fr.F.quote f),
                                    V.bool (Fr.F.skip f), V.bool (Fr.F.closed f)],
                                V.bool (IntKind.wrap IntKind.i64 (Fr.F.depth f - (1 : Int)) == (0 : Int))])
                            [] [])
                      else
                        bif (↑(UInt8.toNat b) : Int) == (93 : Int) then
                          T.done
                            (Ret.mk
                              (V.tup
                                [V.agg
                                    [V.str (Fr.F.buf f ++ [UInt8.ofNat (Int.toNat (↑(UInt8.toNat b) : Int))]), V.int IntKind.i64 (IntKind.wrap IntKind.i64 (Fr.F.depth f - (1 : Int))), V.bool (Fr.F.quote f),
                                      V.bool (Fr.F.skip f), V.bool (Fr.F.closed f)],
                                  V.bool (IntKind.wrap IntKind.i64 (Fr.F.depth f - (1 : Int)) == (0 : Int))])
                              [] [])
                        else
                          T.done
                            (Ret.mk
                              (V.tup
                                [V.agg [V.str (Fr.F.buf f ++ [UInt8.ofNat (Int.toNat (↑(UInt8.toNat b) : Int))]), V.int IntKind.i64 (Fr.F.depth f), V.bool (Fr.F.quote f), V.bool (Fr.F.skip f), V.bool (Fr.F.closed f)],
                                  V.bool false])
                              [] []))) := by kernel_rfl

theorem sbyte_ok (f : Fr.F) (b : UInt8) (hd : -1000 ≤ f.depth ∧ f.depth ≤ 1000) (hl : f.buf.length ≤ 100000) : FnOK Try.prog fSByte [.agg (vwF f), .int .u8 (b.toNat : Nat)] [] ⟨.tup [.agg (vwF (Fr.sByte f b).1), .bool (Fr.sByte f b).2], [], []⟩ := by
  refine fnOK_TL (E := E0) follows named (sbyteT f b) (by simp) ?_
  have hb := b.toNat_lt
  have hu : UInt8.ofNat ((b.toNat : Int)).toNat = b := by simp
  simp only [WP_cond, T.WP, All, decide_eq_true_eq, decide_eq_false_iff_not, and_true, beq_iff_eq, beq_eq_false_iff_ne, ne_eq, hu, List.length_append, List.length_cons, List.length_nil]
  simp (disch := omega) only [wrap_id]
  have hn : 0 ≤ (b.toNat : Int) ∧ (b.toNat : Int) < 256 := by omega
  unfold Fr.sByte Fr.blank
  generalize (b.toNat : Int) = n at *
  obtain ⟨buf, depth, quote, skip, closed⟩ := f
  simp only at hd hl ⊢
  have e1 : ((buf.length + (0 + 1) : Nat) : Int) > 3000 ↔ 3000 < buf.length + 1 := by omega
  have e2 : (buf ++ [b]).length = buf.length + 1 := by simp
  simp only [e1, e2, gt_iff_lt, bne_iff_ne, ne_eq, bne_eq_false_iff_eq, Decidable.not_not]
  clear e1 e2 hu hb
  generalize hm : buf.length + 1 = m
  generalize buf ++ [b] = bb
  have hm2 : m ≤ 200000 := by omega
  clear hm
  repeat' with_reducible first
    | intro h
    | apply And.intro
  all_goals first
    | omega
    | (simp [*, RetLe, vwF, Fr.F.shut]; done)
    | (simp [*, RetLe, vwF, Fr.F.shut]; omega)
    | (exfalso; simp_all; done)

noncomputable def resSB : ResT := fun f vs hp => match vs, hp with
  | [.agg [.str buf, .int _ d, .bool q, .bool k, .bool c], .int _ n], [] => bif Nat.beq f fSByte then some ⟨Fr.sByte ⟨buf, d, q, k, c⟩ (UInt8.ofNat n.toNat), fun y => ⟨.tup [.agg (vwF y.1), .bool y.2], [], []⟩⟩ else none
  | _, _ => none
noncomputable def ESF : Env := { P := Try.prog, vw := vwA, res := resSB }

end Go.Proofs.Ytopebociobgmhaa

/-
  The program's FeedAll.
-/
import Derived.Test.YtopebociobgmhaaRq
namespace Go.Proofs.Ytopebociobgmhaa
open Go.RowKit

def stB (W : List (List UInt8)) (x : Fr.SS) (i : Int) (b : Bool) : St := ⟨mkTm 28 [(0, sls encStr W), (2, .ptr 0 0), (3, .dsl 0 true []), (4, .int .i64 0), (5, .ptr 1 0), (6, .sl 2 0 x.out.length b), (15, sls encStr W), (16, .int .i64 W.length), (17, .int .i64 i)], [gF Fr.F.zero, gF x.f, strB x.out], []⟩
def nfB : Ex → Kp := fun _ => { keep := [0, 2, 3, 4, 5, 6, 15, 16, 17] }

--FOLD gF strB
set_option maxRecDepth 100000 in
theorem iallT (W : List (List UInt8)) (x : Fr.SS) (i : Int) (b : Bool) : bodyT EIG 0 nfB (lp Try.prog fIFeedAll 0) (stB W x i b) =
  bif decide (i < (↑(List.length W) : Int)) then
    T.need [(0 : Int) ≤ i ∧ i < (↑(List.length W) : Int), List.take 1 (List.drop (Int.toNat i * 1) (encs encStr W)) = [V.str (List.getD (decL encStr (encs encStr W)) (Int.toNat i) [])]]
      (T.bind
        (Fr.sFeed
          (Fr.F.mk (Fr.F.buf (Fr.SS.f x)) (Fr.G.depth (Fr.G.mk (Fr.F.depth (Fr.SS.f x)) (Fr.F.quote (Fr.SS.f x)) (Fr.F.skip (Fr.SS.f x)) (Fr.F.closed (Fr.SS.f x))))
            (Fr.G.quote (Fr.G.mk (Fr.F.depth (Fr.SS.f x)) (Fr.F.quote (Fr.SS.f x)) (Fr.F.skip (Fr.SS.f x)) (Fr.F.closed (Fr.SS.f x))))
            (Fr.G.skip (Fr.G.mk (Fr.F.depth (Fr.SS.f x)) (Fr.F.quote (Fr.SS.f x)) (Fr.F.skip (Fr.SS.f x)) (Fr.F.closed (Fr.SS.f x))))
            (Fr.G.closed (Fr.G.mk (Fr.F.depth (Fr.SS.f x)) (Fr.F.quote (Fr.SS.f x)) (Fr.F.skip (Fr.SS.f x)) (Fr.F.closed (Fr.SS.f x)))))
          (List.getD (decL encStr (encs encStr W)) (Int.toNat i) []))
        fun y0 =>
        T.need
          [FnOK (Env.P EIG) 29 [V.ptr 0 0, V.str (List.getD (decL encStr (encs encStr W)) (Int.toNat i) [])]
              [some
                  ([V.str (Fr.F.buf (Fr.SS.f x)), V.int IntKind.i64 (Fr.G.depth (Fr.G.mk (Fr.F.depth (Fr.SS.f x)) (Fr.F.quote (Fr.SS.f x)) (Fr.F.skip (Fr.SS.f x)) (Fr.F.closed (Fr.SS.f x)))),
                      V.bool (Fr.G.quote (Fr.G.mk (Fr.F.depth (Fr.SS.f x)) (Fr.F.quote (Fr.SS.f x)) (Fr.F.skip (Fr.SS.f x)) (Fr.F.closed (Fr.SS.f x)))),
                      V.bool (Fr.G.skip (Fr.G.mk (Fr.F.depth (Fr.SS.f x)) (Fr.F.quote (Fr.SS.f x)) (Fr.F.skip (Fr.SS.f x)) (Fr.F.closed (Fr.SS.f x)))),
                      V.bool (Fr.G.closed (Fr.G.mk (Fr.F.depth (Fr.SS.f x)) (Fr.F.quote (Fr.SS.f x)) (Fr.F.skip (Fr.SS.f x)) (Fr.F.closed (Fr.SS.f x))))],
                    29)]
              (Ret.mk (V.dsl (List.length (Fr.SS.out y0)) false (encs encStr (Fr.SS.out y0)))
                [some
                    ([V.str (Fr.F.buf (Fr.SS.f y0)), V.int IntKind.i64 (Fr.G.depth (Fr.G.mk (Fr.F.depth (Fr.SS.f y0)) (Fr.F.quote (Fr.SS.f y0)) (Fr.F.skip (Fr.SS.f y0)) (Fr.F.closed (Fr.SS.f y0)))),
                        V.bool (Fr.G.quote (Fr.G.mk (Fr.F.depth (Fr.SS.f y0)) (Fr.F.quote (Fr.SS.f y0)) (Fr.F.skip (Fr.SS.f y0)) (Fr.F.closed (Fr.SS.f y0)))),
                        V.bool (Fr.G.skip (Fr.G.mk (Fr.F.depth (Fr.SS.f y0)) (Fr.F.quote (Fr.SS.f y0)) (Fr.F.skip (Fr.SS.f y0)) (Fr.F.closed (Fr.SS.f y0)))),
                        V.bool (Fr.G.closed (Fr.G.mk (Fr.F.depth (Fr.SS.f y0)) (Fr.F.quote (Fr.SS.f y0)) (Fr.F.skip (Fr.SS.f y0)) (Fr.F.closed (Fr.SS.f y0))))],
                      29)]
                [0])]
          (T.need
            [List.length (encs encStr (Fr.SS.out y0)) = List.length (Fr.SS.out y0) * 1, List.all (encs encStr (Fr.SS.out y0)) V.one = true, 0 = 0,
              List.length (encs encStr (Fr.SS.out x)) = List.length (Fr.SS.out x) * 1, List.length (Fr.SS.out x) + List.length (Fr.SS.out y0) ≤ 9223372036854775807,
              (List.length (Fr.SS.out x) + List.length (Fr.SS.out y0)) * 16 ≤ 140737488355328]
            (T.done
              (Ex.normal,
                St.mk
                  (mkTm 28
                    [(0, V.dsl (List.length W) false (encs encStr W)), (2, V.ptr 0 0), (3, V.dsl 0 true []), (4, V.int IntKind.i64 (0 : Int)),
                      (5, V.ptr 1 0), (6, V.sl 2 0 (List.length (Fr.SS.out x) + List.length (Fr.SS.out y0)) false), (15, V.dsl (List.length W) false (encs encStr W)),
                      (16, V.int IntKind.i64 (↑(List.length W) : Int)), (17, V.int IntKind.i64 (IntKind.wrap IntKind.i64 (i + (1 : Int))))])
                  [some ([V.str [], V.int IntKind.i64 (0 : Int), V.bool false, V.bool false, V.bool false], 29),
                    some
                      ([V.str (Fr.F.buf (Fr.SS.f y0)), V.int IntKind.i64 (Fr.G.depth (Fr.G.mk (Fr.F.depth (Fr.SS.f y0)) (Fr.F.quote (Fr.SS.f y0)) (Fr.F.skip (Fr.SS.f y0)) (Fr.F.closed (Fr.SS.f y0)))),
                          V.bool (Fr.G.quote (Fr.G.mk (Fr.F.depth (Fr.SS.f y0)) (Fr.F.quote (Fr.SS.f y0)) (Fr.F.skip (Fr.SS.f y0)) (Fr.F.closed (Fr.SS.f y0)))),
                          V.bool (Fr.G.skip (Fr.G.mk (Fr.F.depth (Fr.SS.f y0)) (Fr.F.quote (Fr.SS.f y0)) (Fr.F.skip (Fr.SS.f y0)) (Fr.F.closed (Fr.SS.f y0)))),
                          V.bool (Fr.G.closed (Fr.G.mk (Fr.F.depth (Fr.SS.f y0)) (Fr.F.quote (Fr.SS.f y0)) (Fr.F.skip (Fr.SS.f y0)) (Fr.F.closed (Fr.SS.f y0))))],
                        29),
                    some ([V.sld (encs encStr (Fr.SS.out x) ++ encs encStr (Fr.SS.out y0))], 9)]
                  []))))
  else
    T.done
      (Ex.exit 0,
        St.mk
          (mkTm 28
            [(0, V.dsl (List.length W) false (encs encStr W)), (2, V.ptr 0 0), (3, V.dsl 0 true []), (4, V.int IntKind.i64 (0 : Int)),
              (5, V.ptr 1 0), (6, V.sl 2 0 (List.length (Fr.SS.out x)) b), (15, V.dsl (List.length W) false (encs encStr W)),
              (16, V.int IntKind.i64 (↑(List.length W) : Int)), (17, V.int IntKind.i64 i)])
          [some ([V.str [], V.int IntKind.i64 (0 : Int), V.bool false, V.bool false, V.bool false], 29),
            some
              ([V.str (Fr.F.buf (Fr.SS.f x)), V.int IntKind.i64 (Fr.G.depth (Fr.G.mk (Fr.F.depth (Fr.SS.f x)) (Fr.F.quote (Fr.SS.f x)) (Fr.F.skip (Fr.SS.f x)) (Fr.F.closed (Fr.SS.f x)))),
                  V.bool (Fr.G.quote (Fr.G.mk (Fr.F.depth (Fr.SS.f x)) (Fr.F.quote (Fr.SS.f x)) (Fr.F.skip (Fr.SS.f x)) (Fr.F.closed (Fr.SS.f x)))),
                  V.bool (Fr.G.skip (Fr.G.mk (Fr.F.depth (Fr.SS.f x)) (Fr.F.quote (Fr.SS.f x)) (Fr.F.skip (Fr.SS.f x)) (Fr.F.closed (Fr.SS.f x)))),
                  V.bool (Fr.G.closed (Fr.G.mk (Fr.F.depth (Fr.SS.f x)) (Fr.F.quote (Fr.SS.f x)) (Fr.F.skip (Fr.SS.f x)) (Fr.F.closed (Fr.SS.f x))))],
                29),
            strB (Fr.SS.out x)]
          []) := by kernel_rfl

theorem iall_loop (W : List (List UInt8)) (hW : ∀ t ∈ W, t.length ≤ 1048576) (hl : W.length ≤ 4096) : ∀ (m i : Nat) (x : Fr.SS) (b : Bool), GF x.f → i + m = W.length → x.out.length + m * 1048576 ≤ 4294967296 →
    LoopTo Try.prog 0 (lp Try.prog fIFeedAll 0) (stB W x i b) (.exit 0) (stB W (sAll (W.drop i) x) W.length (b && i == W.length))
  | 0, i, x, b, hx, h1, h2 => by
    refine loopT (E := EIG) follows named (iallT W x i b) ?_
    simp only [WP_cond, T.WP, All, decide_eq_true_eq, decide_eq_false_iff_not, and_true, beq_iff_eq, beq_eq_false_iff_ne, ne_eq]
    obtain rfl : i = W.length := h1
    refine ⟨fun h => by omega, fun _ => ⟨rfl, ?_⟩⟩
    rw [List.drop_length]
    simp only [sAll, beq_self_eq_true, Bool.and_true]; rfl
  | m + 1, i, x, b, hx, h1, h2 => by
    refine loopT (E := EIG) follows named (iallT W x i b) ?_
    have hd : W.drop i = W.getD i [] :: W.drop (i + 1) := by
      rw [List.drop_eq_getElem_cons (by omega), List.getD_eq_getElem?_getD, List.getElem?_eq_getElem (by omega)]; rfl
    have ht : (W.getD i []).length ≤ 1048576 := by
      rw [List.getD_eq_getElem?_getD, List.getElem?_eq_getElem (by omega)]
      exact hW _ (List.getElem_mem _)
    have hat := layStr.at W [] i 1 (by omega) rfl
    simp only [WP_cond, T.WP, All, decide_eq_true_eq, decide_eq_false_iff_not, and_true, beq_iff_eq, beq_eq_false_iff_ne, ne_eq, Int.toNat_natCast, layStr.decL, wrap_succ (show i < 9223372036854775807 by omega)]
    refine ⟨fun _ => ⟨⟨by omega, hat⟩, ?_⟩, fun h => by omega⟩
    generalize W.getD i [] = t at *
    have ho := sFeed_out x.f t
    rw [show (b && i == W.length) = false by rw [beq_eq_false_iff_ne.2 (by omega)]; simp]
    rintro y rfl
    refine ⟨ifeedS_ok hx t ht, ⟨layStr.length _, layStr.all _, trivial, layStr.length _, ?_, ?_⟩, ?_⟩
    · show x.out.length + (Fr.sFeed x.f t).out.length ≤ _
      omega
    · show (x.out.length + (Fr.sFeed x.f t).out.length) * 16 ≤ _
      omega
    · have ih := iall_loop W hW hl m (i + 1) ⟨(Fr.sFeed x.f t).f, x.out ++ (Fr.sFeed x.f t).out⟩ false (hx.feed t) (by omega) (by simp only [List.length_append]; omega)
      rw [hd, sAll]
      simp only [stB, List.length_append, strB, encs_append, Bool.false_and] at ih
      exact ih

noncomputable def lsIAll : Nat → St → Option LRes := fun id s => match id, s.tm.get 0 with
  | 0, .dsl _ _ cs => some ⟨sAll (decL encStr cs) ⟨Fr.F.zero, []⟩, fun y => .one { keep := [0, 2, 3, 4, 5, 6, 15, 16, 17] } (stB (decL encStr cs) ⟨Fr.F.zero, []⟩ 0 true) (.exit 0) (stB (decL encStr cs) y (decL encStr cs).length (true && 0 == (decL encStr cs).length))⟩
  | _, _ => none
noncomputable def EIA : Env := { P := Try.prog, vw := vwA, res := resIG, ls := lsIAll }
set_option maxRecDepth 100000 in
theorem iAllT (W : List (List UInt8)) : fnT EIA 0 fIFeedAll [sls encStr W] [] =
  T.bind (decide (List.length W ≤ 4096)) fun y0 =>
    T.need [FnOK (Env.P EIA) 30 [V.dsl (List.length W) false (encs encStr W)] [] (Ret.mk (V.bool y0) [] [])]
      (bif !y0 then T.done (Ret.mk (V.tup [V.agg [V.str [], V.int IntKind.i64 (0 : Int), V.bool false, V.bool false, V.bool false], V.dsl 0 false [], V.int IntKind.i64 (2 : Int)]) [] [])
      else
        T.bind (sAll (decL encStr (encs encStr W)) (Fr.SS.mk (Fr.F.mk [] (0 : Int) false false false) [])) fun y1 =>
          T.need
            [St.mk
                  (mkTm 28
                    [(0, V.dsl (List.length W) false (encs encStr W)), (2, V.ptr 0 0), (3, V.dsl 0 true []), (4, V.int IntKind.i64 (0 : Int)),
                      (5, V.ptr 1 0), (6, V.sl 2 0 0 true), (15, V.dsl (List.length W) false (encs encStr W)),
                      (16, V.int IntKind.i64 (↑(List.length W) : Int)), (17, V.int IntKind.i64 (0 : Int))])
                  [some ([V.str [], V.int IntKind.i64 (0 : Int), V.bool false, V.bool false, V.bool false], 29), some ([V.str [], V.int IntKind.i64 (0 : Int), V.bool false, V.bool false, V.bool false], 29),
                    some ([V.sld []], 9)]
                  [] =
                St.mk
                  (mkTm 28
                    [(0, V.dsl (List.length (decL encStr (encs encStr W))) false (encs encStr (decL encStr (encs encStr W)))), (2, V.ptr 0 0), (3, V.dsl 0 true []),
                      (4, V.int IntKind.i64 (0 : Int)), (5, V.ptr 1 0), (6, V.sl 2 0 0 true),
                      (15, V.dsl (List.length (decL encStr (encs encStr W))) false (encs encStr (decL encStr (encs encStr W)))), (16, V.int IntKind.i64 (↑(List.length (decL encStr (encs encStr W))) : Int)),
                      (17, V.int IntKind.i64 (0 : Int))])
                  [some ([V.str [], V.int IntKind.i64 (0 : Int), V.bool false, V.bool false, V.bool false], 29), some ([V.str [], V.int IntKind.i64 (0 : Int), V.bool false, V.bool false, V.bool false], 29),
                    some ([V.sld []], 9)]
                  [],
              SoundC (Env.P EIA) 0 (blk Try.prog fIFeedAll 0)
                (St.mk
                  (mkTm 28
                    [(0, V.dsl (List.length (decL encStr (encs encStr W))) false (encs encStr (decL encStr (encs encStr W)))), (2, V.ptr 0 0), (3, V.dsl 0 true []),
                      (4, V.int IntKind.i64 (0 : Int)), (5, V.ptr 1 0), (6, V.sl 2 0 0 true),
                      (15, V.dsl (List.length (decL encStr (encs encStr W))) false (encs encStr (decL encStr (encs encStr W)))), (16, V.int IntKind.i64 (↑(List.length (decL encStr (encs encStr W))) : Int)),
                      (17, V.int IntKind.i64 (0 : Int))])
                  [some ([V.str [], V.int IntKind.i64 (0 : Int), V.bool false, V.bool false, V.bool false], 29), some ([V.str [], V.int IntKind.i64 (0 : Int), V.bool false, V.bool false, V.bool false], 29),
                    some ([V.sld []], 9)]
                  [])
                (Ex.exit 0)
                (St.mk
                  (mkTm 28
                    [(0, V.dsl (List.length (decL encStr (encs encStr W))) false (encs encStr (decL encStr (encs encStr W)))), (2, V.ptr 0 0), (3, V.dsl 0 true []),
                      (4, V.int IntKind.i64 (0 : Int)), (5, V.ptr 1 0),
                      (6, V.sl 2 0 (List.length (Fr.SS.out y1)) (true && 0 == List.length (decL encStr (encs encStr W)))),
                      (15, V.dsl (List.length (decL encStr (encs encStr W))) false (encs encStr (decL encStr (encs encStr W)))), (16, V.int IntKind.i64 (↑(List.length (decL encStr (encs encStr W))) : Int)),
                      (17, V.int IntKind.i64 (↑(List.length (decL encStr (encs encStr W))) : Int))])
                  [some ([V.str [], V.int IntKind.i64 (0 : Int), V.bool false, V.bool false, V.bool false], 29),
                    some
                      ([V.str (Fr.F.buf (Fr.SS.f y1)), V.int IntKind.i64 (Fr.G.depth (Fr.G.mk (Fr.F.depth (Fr.SS.f y1)) (Fr.F.quote (Fr.SS.f y1)) (Fr.F.skip (Fr.SS.f y1)) (Fr.F.closed (Fr.SS.f y1)))),
                          V.bool (Fr.G.quote (Fr.G.mk (Fr.F.depth (Fr.SS.f y1)) (Fr.F.quote (Fr.SS.f y1)) (Fr.F.skip (Fr.SS.f y1)) (Fr.F.closed (Fr.SS.f y1)))),
                          V.bool (Fr.G.skip (Fr.G.mk (Fr.F.depth (Fr.SS.f y1)) (Fr.F.quote (Fr.SS.f y1)) (Fr.F.skip (Fr.SS.f y1)) (Fr.F.closed (Fr.SS.f y1)))),
                          V.bool (Fr.G.closed (Fr.G.mk (Fr.F.depth (Fr.SS.f y1)) (Fr.F.quote (Fr.SS.f y1)) (Fr.F.skip (Fr.SS.f y1)) (Fr.F.closed (Fr.SS.f y1))))],
                        29),
                    strB (Fr.SS.out y1)]
                  [])]
            (T.done
              (Ret.mk
                (V.tup
                  [V.agg
                      [V.str (Fr.F.buf (Fr.SS.f y1)), V.int IntKind.i64 (Fr.G.depth (Fr.G.mk (Fr.F.depth (Fr.SS.f y1)) (Fr.F.quote (Fr.SS.f y1)) (Fr.F.skip (Fr.SS.f y1)) (Fr.F.closed (Fr.SS.f y1)))),
                        V.bool (Fr.G.quote (Fr.G.mk (Fr.F.depth (Fr.SS.f y1)) (Fr.F.quote (Fr.SS.f y1)) (Fr.F.skip (Fr.SS.f y1)) (Fr.F.closed (Fr.SS.f y1)))),
                        V.bool (Fr.G.skip (Fr.G.mk (Fr.F.depth (Fr.SS.f y1)) (Fr.F.quote (Fr.SS.f y1)) (Fr.F.skip (Fr.SS.f y1)) (Fr.F.closed (Fr.SS.f y1)))),
                        V.bool (Fr.G.closed (Fr.G.mk (Fr.F.depth (Fr.SS.f y1)) (Fr.F.quote (Fr.SS.f y1)) (Fr.F.skip (Fr.SS.f y1)) (Fr.F.closed (Fr.SS.f y1))))],
                    V.dsl (List.length (Fr.SS.out y1)) false (encs encStr (Fr.SS.out y1)), V.int IntKind.i64 (0 : Int)])
                [] []))) := (T.force_eq _).symm.trans (by kernel_rfl)

theorem iAll_ok (W : List (List UInt8)) (hW : ∀ t ∈ W, t.length ≤ 1048576) (hl : W.length ≤ 4096) : FnOK Try.prog fIFeedAll [sls encStr W] [] ⟨.tup [.agg (vwF (sAll W ⟨Fr.F.zero, []⟩).f), sls encStr (sAll W ⟨Fr.F.zero, []⟩).out, .int .i64 0], [], []⟩ := by
  refine fnOK_TL (E := EIA) follows named (iAllT W) (by simp) ?_
  simp only [WP_cond, T.WP, All, decide_eq_true_eq, decide_eq_false_iff_not, and_true, beq_iff_eq, beq_eq_false_iff_ne, ne_eq, layStr.decL]
  have h0 := iall_loop W hW hl W.length 0 ⟨Fr.F.zero, []⟩ true GF.zero (by omega) (by simp; omega)
  rw [List.drop_zero] at h0
  rintro y rfl
  refine ⟨isList_ok W, fun h => ?_, fun _ => ?_⟩
  · simp [hl] at h
  rintro y rfl
  exact ⟨⟨trivial, .loopTo h0⟩, ⟨rfl, rfl, by simp⟩⟩

end Go.Proofs.Ytopebociobgmhaa

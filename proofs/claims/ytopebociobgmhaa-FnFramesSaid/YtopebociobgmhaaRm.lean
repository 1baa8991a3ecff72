/-
  The reference's framer: pieces are fed one by one.
-/
import Derived.Test.YtopebociobgmhaaRl
namespace Go.Proofs.Ytopebociobgmhaa
open Go.RowKit

def GF (f : Fr.F) : Prop := f.ok ∧ (f.closed = true → f = Fr.F.shut)
theorem GF.zero : GF Fr.F.zero := ⟨Fr.F.zero_ok, fun h => by simp [Fr.F.zero] at h⟩
theorem GF.is {f : Fr.F} (h : GF f) : ∃ s : Fr.IS, s.ok ∧ s.done = f ∧ s.out = [] := by
  refine ⟨⟨⟨f.depth, f.quote, f.skip, f.closed⟩, f.buf, []⟩, h.1, ?_, rfl⟩
  unfold Fr.IS.done
  obtain ⟨buf, d, q, k, c⟩ := f
  cases c
  · rfl
  · exact (h.2 rfl).symm
theorem GF.feed {f : Fr.F} (h : GF f) (t : List UInt8) : GF (Fr.sFeed f t).f := by
  obtain ⟨h1, h2⟩ := Fr.feed_alike f t h.1 h.2
  rw [h1]; exact Fr.F.done_ok _ h2
theorem sStep_out (x : Fr.SS) (b : UInt8) : (Fr.sStep x b).out.length ≤ x.out.length + 1 := by
  unfold Fr.sStep
  split
  · exact Nat.le_succ _
  · split
    · simp
    · exact Nat.le_succ _
theorem sFold_out : ∀ (t : List UInt8) (x : Fr.SS), (t.foldl Fr.sStep x).out.length ≤ x.out.length + t.length
  | [], _ => Nat.le_refl _
  | b :: t, x => by
    have h1 := sStep_out x b
    have h2 := sFold_out t (Fr.sStep x b)
    rw [List.foldl_cons, List.length_cons]; omega
theorem sFeed_out (f : Fr.F) (t : List UInt8) : (Fr.sFeed f t).out.length ≤ t.length := by
  have := sFold_out t ⟨f, []⟩
  simpa [Fr.sFeed] using this
theorem sfeedF_ok {f : Fr.F} (h : GF f) (t : List UInt8) (ht : t.length ≤ 1048576) : FnOK Try.prog fSFeed [.agg (vwF f), .str t] [] ⟨.tup [.agg (vwF (Fr.sFeed f t).f), sls encStr (Fr.sFeed f t).out], [], []⟩ := by
  obtain ⟨s, h1, rfl, h3⟩ := h.is
  exact sfeed_ok s h1 h3 t ht

/-- Pieces one by one. -/
def sAll : List (List UInt8) → Fr.SS → Fr.SS
  | [], x => x
  | t :: ts, x => sAll ts ⟨(Fr.sFeed x.f t).f, x.out ++ (Fr.sFeed x.f t).out⟩

noncomputable def resSF : ResT := fun f vs hp => match vs, hp with
  | [.agg [.str buf, .int _ d, .bool q, .bool k, .bool c], .str t], [] => bif Nat.beq f fSFeed then some ⟨Fr.sFeed ⟨buf, d, q, k, c⟩ t, fun y => ⟨.tup [.agg (vwF y.f), sls encStr y.out], [], []⟩⟩ else none
  | _, _ => none
noncomputable def ESA : Env := { P := Try.prog, vw := vwA, res := resSF }
def stA (W : List (List UInt8)) (x : Fr.SS) (i : Int) (b : Bool) : St := ⟨mkTm 38 [(0, sls encStr W), (2, .ptr 0 0), (3, .dsl 0 true []), (4, .int .i64 0), (5, .ptr 1 0), (6, .sl 2 0 x.out.length b), (7, .int .i64 i)], [fB Fr.F.zero, fB x.f, strB x.out], []⟩
def nfA : Ex → Kp := fun _ => { keep := [0, 2, 3, 4, 5, 6, 7] }

--FOLD fB strB
set_option maxRecDepth 100000 in
theorem allT (W : List (List UInt8)) (x : Fr.SS) (i : Int) (b : Bool) : bodyT ESA 0 nfA (lp Try.prog fSFeedAll 0) (stA W x i b) =
  bif decide (i < (↑(List.length W) : Int)) then
    T.need [(0 : Int) ≤ i ∧ i < (↑(List.length W) : Int), List.take 1 (List.drop (Int.toNat i * 1) (encs encStr W)) = [V.str (List.getD (decL encStr (encs encStr W)) (Int.toNat i) [])]]
      (T.bind (Fr.sFeed (Fr.F.mk (Fr.F.buf (Fr.SS.f x)) (Fr.F.depth (Fr.SS.f x)) (Fr.F.quote (Fr.SS.f x)) (Fr.F.skip (Fr.SS.f x)) (Fr.F.closed (Fr.SS.f x))) (List.getD (decL encStr (encs encStr W)) (Int.toNat i) []))
        fun y0 =>
        T.need
          [FnOK (Env.P ESA) 27
              [V.agg [V.str (Fr.F.buf (Fr.SS.f x)), V.int IntKind.i64 (Fr.F.depth (Fr.SS.f x)), V.bool (Fr.F.quote (Fr.SS.f x)), V.bool (Fr.F.skip (Fr.SS.f x)), V.bool (Fr.F.closed (Fr.SS.f x))],
                V.str (List.getD (decL encStr (encs encStr W)) (Int.toNat i) [])]
              []
              (Ret.mk
                (V.tup
                  [V.agg [V.str (Fr.F.buf (Fr.SS.f y0)), V.int IntKind.i64 (Fr.F.depth (Fr.SS.f y0)), V.bool (Fr.F.quote (Fr.SS.f y0)), V.bool (Fr.F.skip (Fr.SS.f y0)), V.bool (Fr.F.closed (Fr.SS.f y0))],
                    V.dsl (List.length (Fr.SS.out y0)) false (encs encStr (Fr.SS.out y0))])
                [] [])]
          (T.need
            [List.length (encs encStr (Fr.SS.out y0)) = List.length (Fr.SS.out y0) * 1, List.all (encs encStr (Fr.SS.out y0)) V.one = true, 0 = 0,
              List.length (encs encStr (Fr.SS.out x)) = List.length (Fr.SS.out x) * 1, List.length (Fr.SS.out x) + List.length (Fr.SS.out y0) ≤ 9223372036854775807,
              (List.length (Fr.SS.out x) + List.length (Fr.SS.out y0)) * 16 ≤ 140737488355328]
            (T.done
              (Ex.normal,
                St.mk
                  (mkTm 38
                    [(0, V.dsl (List.length W) false (encs encStr W)), (2, V.ptr 0 0), (3, V.dsl 0 true []), (4, V.int IntKind.i64 (0 : Int)),
                      (5, V.ptr 1 0), (6, V.sl 2 0 (List.length (Fr.SS.out x) + List.length (Fr.SS.out y0)) false),
                      (7, V.int IntKind.i64 (IntKind.wrap IntKind.i64 (i + (1 : Int))))])
                  [some ([V.str [], V.int IntKind.i64 (0 : Int), V.bool false, V.bool false, V.bool false], 29), fB (Fr.SS.f y0), some ([V.sld (encs encStr (Fr.SS.out x) ++ encs encStr (Fr.SS.out y0))], 9)]
                  []))))
  else
    T.done
      (Ex.exit 0,
        St.mk
          (mkTm 38
            [(0, V.dsl (List.length W) false (encs encStr W)), (2, V.ptr 0 0), (3, V.dsl 0 true []), (4, V.int IntKind.i64 (0 : Int)),
              (5, V.ptr 1 0), (6, V.sl 2 0 (List.length (Fr.SS.out x)) b), (7, V.int IntKind.i64 i)])
          [some ([V.str [], V.int IntKind.i64 (0 : Int), V.bool false, V.bool false, V.bool false], 29), fB (Fr.SS.f x), strB (Fr.SS.out x)] []) := by kernel_rfl

theorem all_loop (W : List (List UInt8)) (hW : ∀ t ∈ W, t.length ≤ 1048576) (hl : W.length ≤ 4096) : ∀ (m i : Nat) (x : Fr.SS) (b : Bool), GF x.f → i + m = W.length → x.out.length + m * 1048576 ≤ 4294967296 →
    LoopTo Try.prog 0 (lp Try.prog fSFeedAll 0) (stA W x i b) (.exit 0) (stA W (sAll (W.drop i) x) W.length (b && i == W.length))
  | 0, i, x, b, hx, h1, h2 => by
    refine loopT (E := ESA) follows named (allT W x i b) ?_
    simp only [WP_cond, T.WP, All, decide_eq_true_eq, decide_eq_false_iff_not, and_true, beq_iff_eq, beq_eq_false_iff_ne, ne_eq]
    obtain rfl : i = W.length := h1
    refine ⟨fun h => by omega, fun _ => ⟨rfl, ?_⟩⟩
    rw [List.drop_length]
    simp only [sAll, beq_self_eq_true, Bool.and_true]; rfl
  | m + 1, i, x, b, hx, h1, h2 => by
    refine loopT (E := ESA) follows named (allT W x i b) ?_
    have hd : W.drop i = W.getD i [] :: W.drop (i + 1) := by
      rw [List.drop_eq_getElem_cons (by omega), List.getD_eq_getElem?_getD, List.getElem?_eq_getElem (by omega)]; rfl
    have ht : (W.getD i []).length ≤ 1048576 := by
      rw [List.getD_eq_getElem?_getD, List.getElem?_eq_getElem (by omega)]
      exact hW _ (List.getElem_mem _)
    have hat := layStr.at W [] i 1 (by omega) rfl
    simp only [WP_cond, T.WP, All, decide_eq_true_eq, decide_eq_false_iff_not, and_true, beq_iff_eq, beq_eq_false_iff_ne, ne_eq, Int.toNat_natCast, layStr.decL, wrap_succ (show i < 9223372036854775807 by omega)]
    refine ⟨fun _ => ⟨⟨by omega, hat⟩, ?_⟩, fun h => by omega⟩
    generalize W.getD i [] = t at *
    have ho := sFeed_out x.f t
    rw [show (b && i == W.length) = false by rw [beq_eq_false_iff_ne.2 (by omega)]; simp]
    rintro y rfl
    refine ⟨sfeedF_ok hx t ht, ⟨layStr.length _, layStr.all _, trivial, layStr.length _, ?_, ?_⟩, ?_⟩
    · show x.out.length + (Fr.sFeed x.f t).out.length ≤ _
      omega
    · show (x.out.length + (Fr.sFeed x.f t).out.length) * 16 ≤ _
      omega
    · have ih := all_loop W hW hl m (i + 1) ⟨(Fr.sFeed x.f t).f, x.out ++ (Fr.sFeed x.f t).out⟩ false (hx.feed t) (by omega) (by simp only [List.length_append]; omega)
      rw [hd, sAll]
      simp only [stA, List.length_append, strB, encs_append, Bool.false_and] at ih
      exact ih

noncomputable def lsAll : Nat → St → Option LRes := fun id s => match id, s.tm.get 0 with
  | 0, .dsl _ _ cs => some ⟨sAll (decL encStr cs) ⟨Fr.F.zero, []⟩, fun y => .one { keep := [0, 2, 3, 4, 5, 6, 7] } (stA (decL encStr cs) ⟨Fr.F.zero, []⟩ 0 true) (.exit 0) (stA (decL encStr cs) y (decL encStr cs).length (true && 0 == (decL encStr cs).length))⟩
  | _, _ => none

set_option maxRecDepth 100000 in
theorem sallT (W : List (List UInt8)) : fnT { P := Try.prog, vw := vwA, res := res0, ls := lsAll } 0 fSFeedAll [sls encStr W] [] =
  bif decide ((↑(List.length W) : Int) > (4096 : Int)) then
    T.done (Ret.mk (V.tup [V.agg [V.str [], V.int IntKind.i64 (0 : Int), V.bool false, V.bool false, V.bool false], V.dsl 0 false [], V.int IntKind.i64 (2 : Int)]) [] [])
  else
    T.bind (sAll (decL encStr (encs encStr W)) (Fr.SS.mk (Fr.F.mk [] (0 : Int) false false false) [])) fun y0 =>
      T.need
        [St.mk
              (mkTm 38
                [(0, V.dsl (List.length W) false (encs encStr W)), (2, V.ptr 0 0), (3, V.dsl 0 true []), (4, V.int IntKind.i64 (0 : Int)),
                  (5, V.ptr 1 0), (6, V.sl 2 0 0 true), (7, V.int IntKind.i64 (0 : Int))])
              [some ([V.str [], V.int IntKind.i64 (0 : Int), V.bool false, V.bool false, V.bool false], 29), some ([V.str [], V.int IntKind.i64 (0 : Int), V.bool false, V.bool false, V.bool false], 29),
                some ([V.sld []], 9)]
              [] =
            St.mk
              (mkTm 38
                [(0, V.dsl (List.length (decL encStr (encs encStr W))) false (encs encStr (decL encStr (encs encStr W)))), (2, V.ptr 0 0), (3, V.dsl 0 true []),
                  (4, V.int IntKind.i64 (0 : Int)), (5, V.ptr 1 0), (6, V.sl 2 0 0 true), (7, V.int IntKind.i64 (0 : Int))])
              [some ([V.str [], V.int IntKind.i64 (0 : Int), V.bool false, V.bool false, V.bool false], 29), some ([V.str [], V.int IntKind.i64 (0 : Int), V.bool false, V.bool false, V.bool false], 29),
                some ([V.sld []], 9)]
              [],
          SoundC (Env.P (Env.mk Try.prog vwA res0 lsAll [])) 0 (blk Try.prog fSFeedAll 0)
            (St.mk
              (mkTm 38
                [(0, V.dsl (List.length (decL encStr (encs encStr W))) false (encs encStr (decL encStr (encs encStr W)))), (2, V.ptr 0 0), (3, V.dsl 0 true []),
                  (4, V.int IntKind.i64 (0 : Int)), (5, V.ptr 1 0), (6, V.sl 2 0 0 true), (7, V.int IntKind.i64 (0 : Int))])
              [some ([V.str [], V.int IntKind.i64 (0 : Int), V.bool false, V.bool false, V.bool false], 29), some ([V.str [], V.int IntKind.i64 (0 : Int), V.bool false, V.bool false, V.bool false], 29),
                some ([V.sld []], 9)]
              [])
            (Ex.exit 0)
            (St.mk
              (mkTm 38
                [(0, V.dsl (List.length (decL encStr (encs encStr W))) false (encs encStr (decL encStr (encs encStr W)))), (2, V.ptr 0 0), (3, V.dsl 0 true []),
                  (4, V.int IntKind.i64 (0 : Int)), (5, V.ptr 1 0),
                  (6, V.sl 2 0 (List.length (Fr.SS.out y0)) (true && 0 == List.length (decL encStr (encs encStr W)))),
                  (7, V.int IntKind.i64 (↑(List.length (decL encStr (encs encStr W))) : Int))])
              [some ([V.str [], V.int IntKind.i64 (0 : Int), V.bool false, V.bool false, V.bool false], 29), fB (Fr.SS.f y0), strB (Fr.SS.out y0)] [])]
        (T.done
          (Ret.mk
            (V.tup
              [V.agg [V.str (Fr.F.buf (Fr.SS.f y0)), V.int IntKind.i64 (Fr.F.depth (Fr.SS.f y0)), V.bool (Fr.F.quote (Fr.SS.f y0)), V.bool (Fr.F.skip (Fr.SS.f y0)), V.bool (Fr.F.closed (Fr.SS.f y0))],
                V.dsl (List.length (Fr.SS.out y0)) false (encs encStr (Fr.SS.out y0)), V.int IntKind.i64 (0 : Int)])
            [] [])) := by kernel_rfl

theorem sall_ok (W : List (List UInt8)) (hW : ∀ t ∈ W, t.length ≤ 1048576) (hl : W.length ≤ 4096) : FnOK Try.prog fSFeedAll [sls encStr W] [] ⟨.tup [.agg (vwF (sAll W ⟨Fr.F.zero, []⟩).f), sls encStr (sAll W ⟨Fr.F.zero, []⟩).out, .int .i64 0], [], []⟩ := by
  refine fnOK_TL (E := { P := Try.prog, vw := vwA, res := res0, ls := lsAll }) follows named (sallT W) (by simp) ?_
  simp only [WP_cond, T.WP, All, decide_eq_true_eq, decide_eq_false_iff_not, and_true, beq_iff_eq, beq_eq_false_iff_ne, ne_eq, layStr.decL]
  have h0 := all_loop W hW hl W.length 0 ⟨Fr.F.zero, []⟩ true GF.zero (by omega) (by simp; omega)
  rw [List.drop_zero] at h0
  refine ⟨fun h => by omega, fun _ => ?_⟩
  rintro y rfl
  exact ⟨⟨trivial, .loopTo h0⟩, ⟨rfl, rfl, by simp⟩⟩

end Go.Proofs.Ytopebociobgmhaa

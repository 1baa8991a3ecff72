/-
  The law FnFrames as a tree.
-/
import Derived.Test.YtopebociobgmhaaRt
namespace Go.Proofs.Ytopebociobgmhaa
open Go.RowKit

abbrev fLaw : Nat := 7
/-- What Feed gives: a framer that is closed stays. -/
def fedF (f : Fr.F) (t : List UInt8) : Fr.SS := bif f.closed then ⟨f, []⟩ else Fr.sFeed f t
noncomputable def resLaw : ResT := fun f vs hp => match vs, hp with
  | [.dsl _ _ cs], [] => bif Nat.beq f fStreamOf then some ⟨(streamF (srcNew (decL encByte cs))).1, fun y => ⟨.str y, [], []⟩⟩
      else none
  | [.sl 0 0 1 _], [some ([.str t], _)] => bif Nat.beq f fIFeedAll || Nat.beq f fSFeedAll then some ⟨sAll [t] ⟨Fr.F.zero, []⟩, fun y => ⟨.tup [.agg (vwF y.f), sls encStr y.out, .int .i64 0], [none], [0]⟩⟩ else none
  | [.sl 0 0 3 _], [some ([.str a, .str b, .str c], _)] => bif Nat.beq f fIFeedAll then some ⟨sAll [a, b, c] ⟨Fr.F.zero, []⟩, fun y => ⟨.tup [.agg (vwF y.f), sls encStr y.out, .int .i64 0], [none], [0]⟩⟩ else none
  | [.dsl _ _ cs, .int _ i, .int _ n], [] => bif Nat.beq f fAt then some ⟨atF (decL encByte cs) i.toNat n, fun y => ⟨.int .i64 y, [], []⟩⟩ else none
  | [.dsl _ _ _, .dsl _ _ _], [] => bif Nat.beq f fSame then some ⟨(), fun _ => ⟨.bool true, [], []⟩⟩ else none
  | [.str t], [] => bif Nat.beq f fFrameText then some ⟨Fr.sFeed Fr.F.zero t, fun y => ⟨.tup [.int .i64 y.out.length, .bool y.f.closed, .int .i64 0], [], []⟩⟩ else none
  | [.agg [.str buf, .int _ d, .bool q, .bool k, .bool c]], [] => bif Nat.beq f fFramerOK then some ⟨okF ⟨buf, d, q, k, c⟩, fun y => ⟨.bool y, [], []⟩⟩ else none
  | [.agg [.str buf, .int _ d, .bool q, .bool k, .bool c], .str t], [] => bif Nat.beq f fFeed then some ⟨fedF ⟨buf, d, q, k, c⟩ t, fun y => ⟨.tup [.agg (vwF y.f), sls encStr y.out, .int .i64 (bif c then 17 else 0)], [], []⟩⟩ else none
  | _, _ => none
noncomputable def ELaw : Env := { P := Try.prog, vw := vwA, res := resLaw }
set_option maxRecDepth 100000 in
theorem lawT (a b : List UInt8) : fnT ELaw 0 fLaw [sls encByte a, sls encByte b] [] =
  bif decide ((↑(List.length a) : Int) > (1048576 : Int)) then T.done (Ret.mk (V.bool true) [] [])
  else
    bif decide ((↑(List.length b) : Int) > (1048576 : Int)) then T.done (Ret.mk (V.bool true) [] [])
    else
      T.bind (Prod.fst (streamF (srcNew (decL encByte (encs encByte a))))) fun y0 =>
        T.need [FnOK (Env.P ELaw) 24 [V.dsl (List.length a) false (encs encByte a)] [] (Ret.mk (V.str y0) [] [])]
          (T.bind (atF (decL encByte (encs encByte b)) 0 (IntKind.wrap IntKind.i64 ((↑(List.length y0) : Int) + (1 : Int)))) fun y1 =>
            T.need
              [FnOK (Env.P ELaw) 25 [V.dsl (List.length b) false (encs encByte b), V.int IntKind.i64 (0 : Int), V.int IntKind.i64 (IntKind.wrap IntKind.i64 ((↑(List.length y0) : Int) + (1 : Int)))] []
                  (Ret.mk (V.int IntKind.i64 y1) [] [])]
              (T.bind (atF (decL encByte (encs encByte b)) 1 (IntKind.wrap IntKind.i64 (IntKind.wrap IntKind.i64 ((↑(List.length y0) : Int) - y1) + (1 : Int)))) fun y2 =>
                T.need
                  [FnOK (Env.P ELaw) 25
                      [V.dsl (List.length b) false (encs encByte b), V.int IntKind.i64 (1 : Int), V.int IntKind.i64 (IntKind.wrap IntKind.i64 (IntKind.wrap IntKind.i64 ((↑(List.length y0) : Int) - y1) + (1 : Int)))] []
                      (Ret.mk (V.int IntKind.i64 y2) [] [])]
                  (T.bind (sAll [y0] (Fr.SS.mk (Fr.F.mk [] (0 : Int) false false false) [])) fun y3 =>
                    T.need
                      [FnOK (Env.P ELaw) 17 [V.sl 0 0 1 true] [some ([V.str y0], 9)]
                          (Ret.mk
                            (V.tup
                              [V.agg [V.str (Fr.F.buf (Fr.SS.f y3)), V.int IntKind.i64 (Fr.F.depth (Fr.SS.f y3)), V.bool (Fr.F.quote (Fr.SS.f y3)), V.bool (Fr.F.skip (Fr.SS.f y3)), V.bool (Fr.F.closed (Fr.SS.f y3))],
                                V.dsl (List.length (Fr.SS.out y3)) false (encs encStr (Fr.SS.out y3)), V.int IntKind.i64 (0 : Int)])
                            [none] [0])]
                      (T.bind (sAll [y0] (Fr.SS.mk (Fr.F.mk [] (0 : Int) false false false) [])) fun y4 =>
                        T.need
                          [FnOK (Env.P ELaw) 15 [V.sl 0 0 1 true] [some ([V.str y0], 9)]
                              (Ret.mk
                                (V.tup
                                  [V.agg [V.str (Fr.F.buf (Fr.SS.f y4)), V.int IntKind.i64 (Fr.F.depth (Fr.SS.f y4)), V.bool (Fr.F.quote (Fr.SS.f y4)), V.bool (Fr.F.skip (Fr.SS.f y4)), V.bool (Fr.F.closed (Fr.SS.f y4))],
                                    V.dsl (List.length (Fr.SS.out y4)) false (encs encStr (Fr.SS.out y4)), V.int IntKind.i64 (0 : Int)])
                                [none] [0])]
                          (T.need [(0 : Int) ≤ y1 ∧ y1 ≤ (↑(List.length y0) : Int)]
                            (T.need
                              [(0 : Int) ≤ IntKind.wrap IntKind.i64 (y1 + y2) ∧ IntKind.wrap IntKind.i64 (y1 + y2) ≤ (↑(List.length y0) : Int),
                                (0 : Int) ≤ y1 ∧ y1 ≤ (↑(Int.toNat (IntKind.wrap IntKind.i64 (y1 + y2))) : Int)]
                              (T.need [(0 : Int) ≤ IntKind.wrap IntKind.i64 (y1 + y2) ∧ IntKind.wrap IntKind.i64 (y1 + y2) ≤ (↑(List.length y0) : Int)]
                                (T.bind
                                  (sAll
                                    [List.drop 0 (List.take (Int.toNat y1) y0), List.drop (Int.toNat y1) (List.take (Int.toNat (IntKind.wrap IntKind.i64 (y1 + y2))) y0),
                                      List.drop (Int.toNat (IntKind.wrap IntKind.i64 (y1 + y2))) (List.take (List.length y0) y0)]
                                    (Fr.SS.mk (Fr.F.mk [] (0 : Int) false false false) []))
                                  fun y5 =>
                                  T.need
                                    [FnOK (Env.P ELaw) 17 [V.sl 0 0 3 true]
                                        [some
                                            ([V.str (List.drop 0 (List.take (Int.toNat y1) y0)), V.str (List.drop (Int.toNat y1) (List.take (Int.toNat (IntKind.wrap IntKind.i64 (y1 + y2))) y0)),
                                                V.str (List.drop (Int.toNat (IntKind.wrap IntKind.i64 (y1 + y2))) (List.take (List.length y0) y0))],
                                              9)]
                                        (Ret.mk
                                          (V.tup
                                            [V.agg
                                                [V.str (Fr.F.buf (Fr.SS.f y5)), V.int IntKind.i64 (Fr.F.depth (Fr.SS.f y5)), V.bool (Fr.F.quote (Fr.SS.f y5)), V.bool (Fr.F.skip (Fr.SS.f y5)),
                                                  V.bool (Fr.F.closed (Fr.SS.f y5))],
                                              V.dsl (List.length (Fr.SS.out y5)) false (encs encStr (Fr.SS.out y5)), V.int IntKind.i64 (0 : Int)])
                                          [none] [0])]
                                    (T.bind (Fr.sFeed (Fr.F.mk [] (0 : Int) false false false) y0) fun y6 =>
                                      T.need
                                        [FnOK (Env.P ELaw) 9 [V.str y0] []
                                            (Ret.mk (V.tup [V.int IntKind.i64 (↑(List.length (Fr.SS.out y6)) : Int), V.bool (Fr.F.closed (Fr.SS.f y6)), V.int IntKind.i64 (0 : Int)]) [] [])]
                                        (bif
                                            !(Fr.F.buf (Fr.SS.f y3) == Fr.F.buf (Fr.SS.f y4) &&
                                                (Fr.F.depth (Fr.SS.f y3) == Fr.F.depth (Fr.SS.f y4) &&
                                                  (Fr.F.quote (Fr.SS.f y3) == Fr.F.quote (Fr.SS.f y4) &&
                                                    (Fr.F.skip (Fr.SS.f y3) == Fr.F.skip (Fr.SS.f y4) && (Fr.F.closed (Fr.SS.f y3) == Fr.F.closed (Fr.SS.f y4) && true))))) then
                                          T.done (Ret.mk (V.bool false) [] [])
                                        else
                                          T.bind PUnit.unit fun y7 =>
                                            T.need
                                              [FnOK (Env.P ELaw) 26 [V.dsl (List.length (Fr.SS.out y3)) false (encs encStr (Fr.SS.out y3)), V.dsl (List.length (Fr.SS.out y4)) false (encs encStr (Fr.SS.out y4))] []
                                                  (Ret.mk (V.bool true) [] [])]
                                              (bif
                                                  !(Fr.F.buf (Fr.SS.f y3) == Fr.F.buf (Fr.SS.f y5) &&
                                                      (Fr.F.depth (Fr.SS.f y3) == Fr.F.depth (Fr.SS.f y5) &&
                                                        (Fr.F.quote (Fr.SS.f y3) == Fr.F.quote (Fr.SS.f y5) &&
                                                          (Fr.F.skip (Fr.SS.f y3) == Fr.F.skip (Fr.SS.f y5) && (Fr.F.closed (Fr.SS.f y3) == Fr.F.closed (Fr.SS.f y5) && true))))) then
                                                T.done (Ret.mk (V.bool false) [] [])
                                              else
                                                T.bind PUnit.unit fun y8 =>
                                                  T.need
                                                    [FnOK (Env.P ELaw) 26
                                                        [V.dsl (List.length (Fr.SS.out y3)) false (encs encStr (Fr.SS.out y3)), V.dsl (List.length (Fr.SS.out y5)) false (encs encStr (Fr.SS.out y5))] []
                                                        (Ret.mk (V.bool true) [] [])]
                                                    (bif (↑(List.length (Fr.SS.out y6)) : Int) != (↑(List.length (Fr.SS.out y3)) : Int) then T.done (Ret.mk (V.bool false) [] [])
                                                    else
                                                      bif !Fr.F.closed (Fr.SS.f y6) == Fr.F.closed (Fr.SS.f y3) then T.done (Ret.mk (V.bool false) [] [])
                                                      else
                                                        T.bind (okF (Fr.F.mk (Fr.F.buf (Fr.SS.f y3)) (Fr.F.depth (Fr.SS.f y3)) (Fr.F.quote (Fr.SS.f y3)) (Fr.F.skip (Fr.SS.f y3)) (Fr.F.closed (Fr.SS.f y3)))) fun y9 =>
                                                          T.need
                                                            [FnOK (Env.P ELaw) 13
                                                                [V.agg
                                                                    [V.str (Fr.F.buf (Fr.SS.f y3)), V.int IntKind.i64 (Fr.F.depth (Fr.SS.f y3)), V.bool (Fr.F.quote (Fr.SS.f y3)), V.bool (Fr.F.skip (Fr.SS.f y3)),
                                                                      V.bool (Fr.F.closed (Fr.SS.f y3))]]
                                                                [] (Ret.mk (V.bool y9) [] [])]
                                                            (bif !y9 then T.done (Ret.mk (V.bool false) [] [])
                                                            else
                                                              T.need [(0 : Int) ≤ y1 ∧ y1 ≤ (↑(List.length y0) : Int)]
                                                                (T.bind (fedF (Fr.F.mk [] (0 : Int) false false false) (List.drop 0 (List.take (Int.toNat y1) y0))) fun y10 =>
                                                                  T.need
                                                                    [FnOK (Env.P ELaw) 23
                                                                        [V.agg [V.str [], V.int IntKind.i64 (0 : Int), V.bool false, V.bool false, V.bool false], V.str (List.drop 0 (List.take (Int.toNat y1) y0))]
                                                                        []
                                                                        (Ret.mk
                                                                          (V.tup
                                                                            [V.agg
                                                                                [V.str (Fr.F.buf (Fr.SS.f y10)), V.int IntKind.i64 (Fr.F.depth (Fr.SS.f y10)), V.bool (Fr.F.quote (Fr.SS.f y10)),
                                                                                  V.bool (Fr.F.skip (Fr.SS.f y10)), V.bool (Fr.F.closed (Fr.SS.f y10))],
                                                                              V.dsl (List.length (Fr.SS.out y10)) false (encs encStr (Fr.SS.out y10)), V.int IntKind.i64 (0 : Int)])
                                                                          [] [])]
                                                                    (T.need [(0 : Int) ≤ y1 ∧ y1 ≤ (↑(List.length y0) : Int)]
                                                                      (T.bind
                                                                        (fedF (Fr.F.mk (Fr.F.buf (Fr.SS.f y10)) (Fr.F.depth (Fr.SS.f y10)) (Fr.F.quote (Fr.SS.f y10)) (Fr.F.skip (Fr.SS.f y10)) (Fr.F.closed (Fr.SS.f y10)))
                                                                          (List.drop (Int.toNat y1) (List.take (List.length y0) y0)))
                                                                        fun y11 =>
                                                                        T.need
                                                                          [FnOK (Env.P ELaw) 23
                                                                              [V.agg
                                                                                  [V.str (Fr.F.buf (Fr.SS.f y10)), V.int IntKind.i64 (Fr.F.depth (Fr.SS.f y10)), V.bool (Fr.F.quote (Fr.SS.f y10)),
                                                                                    V.bool (Fr.F.skip (Fr.SS.f y10)), V.bool (Fr.F.closed (Fr.SS.f y10))],
                                                                                V.str (List.drop (Int.toNat y1) (List.take (List.length y0) y0))]
                                                                              []
                                                                              (Ret.mk
                                                                                (V.tup
                                                                                  [V.agg
                                                                                      [V.str (Fr.F.buf (Fr.SS.f y11)), V.int IntKind.i64 (Fr.F.depth (Fr.SS.f y11)), V.bool (Fr.F.quote (Fr.SS.f y11)),
                                                                                        V.bool (Fr.F.skip (Fr.SS.f y11)), V.bool (Fr.F.closed (Fr.SS.f y11))],
                                                                                    V.dsl (List.length (Fr.SS.out y11)) false (encs encStr (Fr.SS.out y11)),
                                                                                    V.int IntKind.i64 (bif Fr.F.closed (Fr.SS.f y10) then (17 : Int) else (0 : Int))])
                                                                                [] [])]
                                                                          (bif Fr.F.closed (Fr.SS.f y10) then
                                                                            bif (bif Fr.F.closed (Fr.SS.f y10) then (17 : Int) else (0 : Int)) == (17 : Int) then
                                                                              T.bind PUnit.unit fun y12 =>
                                                                                T.need
                                                                                  [FnOK (Env.P ELaw) 26
                                                                                      [V.dsl (List.length (Fr.SS.out y10)) false (encs encStr (Fr.SS.out y10)),
                                                                                        V.dsl (List.length (Fr.SS.out y3)) false (encs encStr (Fr.SS.out y3))]
                                                                                      [] (Ret.mk (V.bool true) [] [])]
                                                                                  (T.done (Ret.mk (V.bool true) [] []))
                                                                            else T.done (Ret.mk (V.bool false) [] [])
                                                                          else
                                                                            bif (bif Fr.F.closed (Fr.SS.f y10) then (17 : Int) else (0 : Int)) == (0 : Int) then
                                                                              bif
                                                                                  Fr.F.buf (Fr.SS.f y11) == Fr.F.buf (Fr.SS.f y3) &&
                                                                                    (Fr.F.depth (Fr.SS.f y11) == Fr.F.depth (Fr.SS.f y3) &&
                                                                                      (Fr.F.quote (Fr.SS.f y11) == Fr.F.quote (Fr.SS.f y3) &&
                                                                                        (Fr.F.skip (Fr.SS.f y11) == Fr.F.skip (Fr.SS.f y3) && (Fr.F.closed (Fr.SS.f y11) == Fr.F.closed (Fr.SS.f y3) && true)))) then
                                                                                T.done
                                                                                  (Ret.mk
                                                                                    (V.bool
                                                                                      (IntKind.wrap IntKind.i64 ((↑(List.length (Fr.SS.out y10)) : Int) + (↑(List.length (Fr.SS.out y11)) : Int)) ==
                                                                                        (↑(List.length (Fr.SS.out y3)) : Int)))
                                                                                    [] [])
                                                                              else T.done (Ret.mk (V.bool false) [] [])
                                                                            else T.done (Ret.mk (V.bool false) [] [])))))))))))))))))) := by kernel_rfl

theorem sFold_put (t : List UInt8) (f : Fr.F) (o : List (List UInt8)) : t.foldl Fr.sStep ⟨f, o⟩ = ⟨(Fr.sFeed f t).f, o ++ (Fr.sFeed f t).out⟩ := by
  unfold Fr.sFeed
  induction t generalizing f o with
  | nil => simp
  | cons b t ih =>
    have hs : ∀ o : List (List UInt8), Fr.sStep ⟨f, o⟩ b = ⟨(Fr.sStep ⟨f, []⟩ b).f, o ++ (Fr.sStep ⟨f, []⟩ b).out⟩ := by
      intro o
      unfold Fr.sStep
      split
      · simp
      · split <;> simp
    rw [List.foldl_cons, List.foldl_cons, hs o, ih]
    have := ih (Fr.sStep ⟨f, []⟩ b).f (Fr.sStep ⟨f, []⟩ b).out
    rw [show Fr.sStep ⟨f, []⟩ b = ⟨(Fr.sStep ⟨f, []⟩ b).f, (Fr.sStep ⟨f, []⟩ b).out⟩ from rfl, this]
    simp
theorem sFeed_append (f : Fr.F) (a b : List UInt8) : Fr.sFeed f (a ++ b) = ⟨(Fr.sFeed (Fr.sFeed f a).f b).f, (Fr.sFeed f a).out ++ (Fr.sFeed (Fr.sFeed f a).f b).out⟩ := by
  conv => lhs; unfold Fr.sFeed
  rw [List.foldl_append, ← sFold_put]
  rfl
theorem sAll_one (t : List UInt8) : sAll [t] ⟨Fr.F.zero, []⟩ = Fr.sFeed Fr.F.zero t := by simp [sAll]
theorem sAll_three (a b c : List UInt8) : sAll [a, b, c] ⟨Fr.F.zero, []⟩ = Fr.sFeed Fr.F.zero (a ++ (b ++ c)) := by
  rw [sFeed_append, sFeed_append]; simp [sAll]
theorem fedF_eq (f : Fr.F) (t : List UInt8) : fedF f t = Fr.sFeed f t := by
  unfold fedF
  cases h : f.closed
  · rfl
  · exact (sFold_closed t ⟨f, []⟩ h).symm

/-- A framer's own text brings it up again. -/
theorem sFeed_self (t : List UInt8) : ∀ (x : Fr.SS), (x.f.closed = false → Fr.sFeed Fr.F.zero x.f.buf = ⟨x.f, []⟩) → (t.foldl Fr.sStep x).f.closed = false → Fr.sFeed Fr.F.zero (t.foldl Fr.sStep x).f.buf = ⟨(t.foldl Fr.sStep x).f, []⟩ := by
  induction t with
  | nil => exact fun x h => h
  | cons b t ih =>
    intro x h
    rw [List.foldl_cons]
    refine ih _ fun hc => ?_
    by_cases h0 : x.f.closed = true
    · have : Fr.sStep x b = x := by unfold Fr.sStep; rw [if_pos h0]
      rw [this] at hc ⊢; exact h hc
    have h0 : x.f.closed = false := by simpa using h0
    have h1 := h h0
    have hs : Fr.sStep x b = if (Fr.sByte x.f b).2 then ⟨Fr.F.zero, x.out ++ [(Fr.sByte x.f b).1.buf]⟩ else ⟨(Fr.sByte x.f b).1, x.out⟩ := by
      unfold Fr.sStep; simp only [h0, Bool.false_eq_true, if_false]
    rw [hs] at hc ⊢
    by_cases h2 : (Fr.sByte x.f b).2 = true
    · rw [if_pos h2] at hc ⊢; rfl
    · rw [if_neg h2] at hc ⊢
      have key : (Fr.sByte x.f b).1 = x.f ∨ (Fr.sByte x.f b).1.closed = true ∨ (Fr.sByte x.f b).1.buf = x.f.buf ++ [b] := by
        unfold Fr.sByte
        dsimp only
        repeat' split
        all_goals first | exact .inl rfl | exact .inr (.inl rfl) | exact .inr (.inr rfl)
      rcases key with h3 | h3 | h3
      · simp only [h3]; exact h1
      · simp only at hc; rw [h3] at hc; cases hc
      · simp only [h3]
        rw [sFeed_append, h1]
        simp only [Fr.sFeed, List.foldl_cons, List.foldl_nil, Fr.sStep, h0, Bool.false_eq_true, if_false, h2]
        simp
theorem okF_feed (t : List UInt8) : okF (Fr.sFeed Fr.F.zero t).f = true := by
  have hg := GF.zero.feed t
  have h1 := sFeed_self t ⟨Fr.F.zero, []⟩ (fun _ => rfl)
  unfold okF
  cases hc : (Fr.sFeed Fr.F.zero t).f.closed
  · have h2 := h1 hc
    have h3 : Fr.sFeed Fr.F.zero (Fr.sFeed Fr.F.zero t).f.buf = ⟨(Fr.sFeed Fr.F.zero t).f, []⟩ := h2
    rcases hg.1 with h | h
    · rw [hc] at h; cases h
    · rw [h3, decide_eq_false (by omega)]; simp
  · rw [hg.2 hc]; simp

end Go.Proofs.Ytopebociobgmhaa

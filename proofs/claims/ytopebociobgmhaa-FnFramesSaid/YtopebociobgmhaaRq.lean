/-
  The program's FramerOK, Feed, FrameText.
-/
import Derived.Test.YtopebociobgmhaaRp
namespace Go.Proofs.Ytopebociobgmhaa
open Go.RowKit

theorem GF.bufb {f : Fr.F} (h : GF f) : f.buf.length ≤ 100000 := by
  rcases h.1 with hc | hc
  · rw [h.2 hc]; simp [Fr.F.shut]
  · omega
theorem ifeedS_ok {f : Fr.F} (h : GF f) (t : List UInt8) (ht : t.length ≤ 1048576) : FnOK Try.prog fIFeed [.ptr 0 0, .str t] [gF f] ⟨sls encStr (Fr.sFeed f t).out, [gF (Fr.sFeed f t).f], [0]⟩ := by
  rw [(Fr.feed_alike f t h.1 h.2).1]
  exact ifeed_ok f h.1 h.bufb t ht

abbrev fIsText : Nat := 28
abbrev fIsList : Nat := 30
abbrev fFramerOK : Nat := 13
abbrev fFeed : Nat := 23
abbrev fFrameText : Nat := 9
abbrev fIFeedAll : Nat := 17
set_option maxRecDepth 100000 in
theorem isTextT (t : List UInt8) : fnT E0 0 fIsText [.str t] [] =
  T.done (Ret.mk (V.bool (decide ((↑(List.length t) : Int) ≤ (65536 : Int)))) [] []) := (T.force_eq _).symm.trans (by kernel_rfl)
set_option maxRecDepth 100000 in
theorem isListT (W : List (List UInt8)) : fnT E0 0 fIsList [sls encStr W] [] =
  T.done (Ret.mk (V.bool (decide ((↑(List.length W) : Int) ≤ (4096 : Int)))) [] []) := (T.force_eq _).symm.trans (by kernel_rfl)
theorem isText_ok (t : List UInt8) : FnOK Try.prog fIsText [.str t] [] ⟨.bool (decide (t.length ≤ 65536)), [], []⟩ := by
  refine fnOK_TL (E := E0) follows named (isTextT t) (by simp) ?_
  simp only [WP_cond, T.WP, All, decide_eq_true_eq, decide_eq_false_iff_not, and_true, beq_iff_eq, beq_eq_false_iff_ne, ne_eq]
  refine ⟨?_, rfl, by simp⟩
  show V.bool _ = V.bool _
  exact congrArg V.bool (decide_eq_decide.2 (by omega))
theorem isList_ok (W : List (List UInt8)) : FnOK Try.prog fIsList [sls encStr W] [] ⟨.bool (decide (W.length ≤ 4096)), [], []⟩ := by
  refine fnOK_TL (E := E0) follows named (isListT W) (by simp) ?_
  simp only [WP_cond, T.WP, All, decide_eq_true_eq, decide_eq_false_iff_not, and_true, beq_iff_eq, beq_eq_false_iff_ne, ne_eq]
  refine ⟨?_, rfl, by simp⟩
  show V.bool _ = V.bool _
  exact congrArg V.bool (decide_eq_decide.2 (by omega))

/-- Could the framer have come up? -/
def okF (f : Fr.F) : Bool := bif f.closed then f == Fr.F.shut else (!decide (3000 < f.buf.length)) && ((Fr.sFeed Fr.F.zero f.buf).out.length == 0 && (Fr.sFeed Fr.F.zero f.buf).f == f)

noncomputable def resIG : ResT := fun f vs hp => match vs, hp with
  | [.str t], [] => bif Nat.beq f fIsText then some ⟨decide (t.length ≤ 65536), fun y => ⟨.bool y, [], []⟩⟩ else none
  | [.dsl n _ _], [] => bif Nat.beq f fIsList then some ⟨decide (n ≤ 4096), fun y => ⟨.bool y, [], []⟩⟩ else none
  | [.agg [.str buf, .int _ d, .bool q, .bool k, .bool c]], [] => bif Nat.beq f fFramerOK then some ⟨okF ⟨buf, d, q, k, c⟩, fun y => ⟨.bool y, [], []⟩⟩ else none
  | [.ptr 0 0, .str t], [some ([.str buf, .int _ d, .bool q, .bool k, .bool c], _)] => bif Nat.beq f fIFeed then some ⟨Fr.sFeed ⟨buf, d, q, k, c⟩ t, fun y => ⟨sls encStr y.out, [gF y.f], [0]⟩⟩ else none
  | _, _ => none
noncomputable def EIG : Env := { P := Try.prog, vw := vwA, res := resIG }

set_option maxRecDepth 100000 in
theorem framerOKT (f : Fr.F) : fnT EIG 0 fFramerOK [.agg (vwF f)] [] =
  bif Fr.F.closed f then T.done (Ret.mk (V.bool (Fr.F.buf f == [] && (Fr.F.depth f == (0 : Int) && (Fr.F.quote f == false && (Fr.F.skip f == false && (Fr.F.closed f == true && true)))))) [] [])
  else
    bif decide ((↑(List.length (Fr.F.buf f)) : Int) > (3000 : Int)) then T.done (Ret.mk (V.bool false) [] [])
    else
      T.bind (Fr.sFeed (Fr.F.mk [] (0 : Int) false false false) (Fr.F.buf f)) fun y0 =>
        T.need
          [FnOK (Env.P EIG) 29 [V.ptr 0 0, V.str (Fr.F.buf f)] [some ([V.str [], V.int IntKind.i64 (0 : Int), V.bool false, V.bool false, V.bool false], 29)]
              (Ret.mk (V.dsl (List.length (Fr.SS.out y0)) false (encs encStr (Fr.SS.out y0)))
                [some
                    ([V.str (Fr.F.buf (Fr.SS.f y0)), V.int IntKind.i64 (Fr.G.depth (Fr.G.mk (Fr.F.depth (Fr.SS.f y0)) (Fr.F.quote (Fr.SS.f y0)) (Fr.F.skip (Fr.SS.f y0)) (Fr.F.closed (Fr.SS.f y0)))),
                        V.bool (Fr.G.quote (Fr.G.mk (Fr.F.depth (Fr.SS.f y0)) (Fr.F.quote (Fr.SS.f y0)) (Fr.F.skip (Fr.SS.f y0)) (Fr.F.closed (Fr.SS.f y0)))),
                        V.bool (Fr.G.skip (Fr.G.mk (Fr.F.depth (Fr.SS.f y0)) (Fr.F.quote (Fr.SS.f y0)) (Fr.F.skip (Fr.SS.f y0)) (Fr.F.closed (Fr.SS.f y0)))),
                        V.bool (Fr.G.closed (Fr.G.mk (Fr.F.depth (Fr.SS.f y0)) (Fr.F.quote (Fr.SS.f y0)) (Fr.F.skip (Fr.SS.f y0)) (Fr.F.closed (Fr.SS.f y0))))],
                      29)]
                [0])]
          (bif (↑(List.length (Fr.SS.out y0)) : Int) == (0 : Int) then
            T.done
              (Ret.mk
                (V.bool
                  (Fr.F.buf (Fr.SS.f y0) == Fr.F.buf f &&
                    (Fr.G.depth (Fr.G.mk (Fr.F.depth (Fr.SS.f y0)) (Fr.F.quote (Fr.SS.f y0)) (Fr.F.skip (Fr.SS.f y0)) (Fr.F.closed (Fr.SS.f y0))) == Fr.F.depth f &&
                      (Fr.G.quote (Fr.G.mk (Fr.F.depth (Fr.SS.f y0)) (Fr.F.quote (Fr.SS.f y0)) (Fr.F.skip (Fr.SS.f y0)) (Fr.F.closed (Fr.SS.f y0))) == Fr.F.quote f &&
                        (Fr.G.skip (Fr.G.mk (Fr.F.depth (Fr.SS.f y0)) (Fr.F.quote (Fr.SS.f y0)) (Fr.F.skip (Fr.SS.f y0)) (Fr.F.closed (Fr.SS.f y0))) == Fr.F.skip f &&
                          (Fr.G.closed (Fr.G.mk (Fr.F.depth (Fr.SS.f y0)) (Fr.F.quote (Fr.SS.f y0)) (Fr.F.skip (Fr.SS.f y0)) (Fr.F.closed (Fr.SS.f y0))) == Fr.F.closed f && true))))))
                [] [])
          else T.done (Ret.mk (V.bool false) [] [])) := by kernel_rfl
set_option maxRecDepth 100000 in
theorem frameTextT (t : List UInt8) : fnT EIG 0 fFrameText [.str t] [] =
  T.bind (decide (List.length t ≤ 65536)) fun y0 =>
    T.need [FnOK (Env.P EIG) 28 [V.str t] [] (Ret.mk (V.bool y0) [] [])]
      (bif !y0 then T.done (Ret.mk (V.tup [V.int IntKind.i64 (0 : Int), V.bool false, V.int IntKind.i64 (2 : Int)]) [] [])
      else
        T.bind (Fr.sFeed (Fr.F.mk [] (0 : Int) false false false) t) fun y1 =>
          T.need
            [FnOK (Env.P EIG) 29 [V.ptr 0 0, V.str t] [some ([V.str [], V.int IntKind.i64 (0 : Int), V.bool false, V.bool false, V.bool false], 29)]
                (Ret.mk (V.dsl (List.length (Fr.SS.out y1)) false (encs encStr (Fr.SS.out y1)))
                  [some
                      ([V.str (Fr.F.buf (Fr.SS.f y1)), V.int IntKind.i64 (Fr.G.depth (Fr.G.mk (Fr.F.depth (Fr.SS.f y1)) (Fr.F.quote (Fr.SS.f y1)) (Fr.F.skip (Fr.SS.f y1)) (Fr.F.closed (Fr.SS.f y1)))),
                          V.bool (Fr.G.quote (Fr.G.mk (Fr.F.depth (Fr.SS.f y1)) (Fr.F.quote (Fr.SS.f y1)) (Fr.F.skip (Fr.SS.f y1)) (Fr.F.closed (Fr.SS.f y1)))),
                          V.bool (Fr.G.skip (Fr.G.mk (Fr.F.depth (Fr.SS.f y1)) (Fr.F.quote (Fr.SS.f y1)) (Fr.F.skip (Fr.SS.f y1)) (Fr.F.closed (Fr.SS.f y1)))),
                          V.bool (Fr.G.closed (Fr.G.mk (Fr.F.depth (Fr.SS.f y1)) (Fr.F.quote (Fr.SS.f y1)) (Fr.F.skip (Fr.SS.f y1)) (Fr.F.closed (Fr.SS.f y1))))],
                        29)]
                  [0])]
            (T.done
              (Ret.mk
                (V.tup
                  [V.int IntKind.i64 (↑(List.length (Fr.SS.out y1)) : Int), V.bool (Fr.G.closed (Fr.G.mk (Fr.F.depth (Fr.SS.f y1)) (Fr.F.quote (Fr.SS.f y1)) (Fr.F.skip (Fr.SS.f y1)) (Fr.F.closed (Fr.SS.f y1)))),
                    V.int IntKind.i64 (0 : Int)])
                [] []))) := (T.force_eq _).symm.trans (by kernel_rfl)
set_option maxRecDepth 100000 in
theorem iFeedT (f : Fr.F) (t : List UInt8) : fnT EIG 0 fFeed [.agg (vwF f), .str t] [] =
  T.bind (decide (List.length t ≤ 65536)) fun y0 =>
    T.need [FnOK (Env.P EIG) 28 [V.str t] [] (Ret.mk (V.bool y0) [] [])]
      (bif !y0 then T.done (Ret.mk (V.tup [V.agg [V.str [], V.int IntKind.i64 (0 : Int), V.bool false, V.bool false, V.bool false], V.dsl 0 false [], V.int IntKind.i64 (2 : Int)]) [] [])
      else
        T.bind (okF (Fr.F.mk (Fr.F.buf f) (Fr.F.depth f) (Fr.F.quote f) (Fr.F.skip f) (Fr.F.closed f))) fun y1 =>
          T.need [FnOK (Env.P EIG) 13 [V.agg [V.str (Fr.F.buf f), V.int IntKind.i64 (Fr.F.depth f), V.bool (Fr.F.quote f), V.bool (Fr.F.skip f), V.bool (Fr.F.closed f)]] [] (Ret.mk (V.bool y1) [] [])]
            (bif !y1 then T.done (Ret.mk (V.tup [V.agg [V.str [], V.int IntKind.i64 (0 : Int), V.bool false, V.bool false, V.bool false], V.dsl 0 false [], V.int IntKind.i64 (1 : Int)]) [] [])
            else
              bif Fr.F.closed f then
                T.done
                  (Ret.mk (V.tup [V.agg [V.str (Fr.F.buf f), V.int IntKind.i64 (Fr.F.depth f), V.bool (Fr.F.quote f), V.bool (Fr.F.skip f), V.bool (Fr.F.closed f)], V.dsl 0 false [], V.int IntKind.i64 (17 : Int)])
                    [] [])
              else
                T.bind (Fr.sFeed (Fr.F.mk (Fr.F.buf f) (Fr.F.depth f) (Fr.F.quote f) (Fr.F.skip f) (Fr.F.closed f)) t) fun y2 =>
                  T.need
                    [FnOK (Env.P EIG) 29 [V.ptr 0 0, V.str t]
                        [some ([V.str (Fr.F.buf f), V.int IntKind.i64 (Fr.F.depth f), V.bool (Fr.F.quote f), V.bool (Fr.F.skip f), V.bool (Fr.F.closed f)], 29)]
                        (Ret.mk (V.dsl (List.length (Fr.SS.out y2)) false (encs encStr (Fr.SS.out y2)))
                          [some
                              ([V.str (Fr.F.buf (Fr.SS.f y2)), V.int IntKind.i64 (Fr.G.depth (Fr.G.mk (Fr.F.depth (Fr.SS.f y2)) (Fr.F.quote (Fr.SS.f y2)) (Fr.F.skip (Fr.SS.f y2)) (Fr.F.closed (Fr.SS.f y2)))),
                                  V.bool (Fr.G.quote (Fr.G.mk (Fr.F.depth (Fr.SS.f y2)) (Fr.F.quote (Fr.SS.f y2)) (Fr.F.skip (Fr.SS.f y2)) (Fr.F.closed (Fr.SS.f y2)))),
                                  V.bool (Fr.G.skip (Fr.G.mk (Fr.F.depth (Fr.SS.f y2)) (Fr.F.quote (Fr.SS.f y2)) (Fr.F.skip (Fr.SS.f y2)) (Fr.F.closed (Fr.SS.f y2)))),
                                  V.bool (Fr.G.closed (Fr.G.mk (Fr.F.depth (Fr.SS.f y2)) (Fr.F.quote (Fr.SS.f y2)) (Fr.F.skip (Fr.SS.f y2)) (Fr.F.closed (Fr.SS.f y2))))],
                                29)]
                          [0])]
                    (T.done
                      (Ret.mk
                        (V.tup
                          [V.agg
                              [V.str (Fr.F.buf (Fr.SS.f y2)), V.int IntKind.i64 (Fr.G.depth (Fr.G.mk (Fr.F.depth (Fr.SS.f y2)) (Fr.F.quote (Fr.SS.f y2)) (Fr.F.skip (Fr.SS.f y2)) (Fr.F.closed (Fr.SS.f y2)))),
                                V.bool (Fr.G.quote (Fr.G.mk (Fr.F.depth (Fr.SS.f y2)) (Fr.F.quote (Fr.SS.f y2)) (Fr.F.skip (Fr.SS.f y2)) (Fr.F.closed (Fr.SS.f y2)))),
                                V.bool (Fr.G.skip (Fr.G.mk (Fr.F.depth (Fr.SS.f y2)) (Fr.F.quote (Fr.SS.f y2)) (Fr.F.skip (Fr.SS.f y2)) (Fr.F.closed (Fr.SS.f y2)))),
                                V.bool (Fr.G.closed (Fr.G.mk (Fr.F.depth (Fr.SS.f y2)) (Fr.F.quote (Fr.SS.f y2)) (Fr.F.skip (Fr.SS.f y2)) (Fr.F.closed (Fr.SS.f y2))))],
                            V.dsl (List.length (Fr.SS.out y2)) false (encs encStr (Fr.SS.out y2)), V.int IntKind.i64 (0 : Int)])
                        [] [])))) := (T.force_eq _).symm.trans (by kernel_rfl)

theorem F.beq (f g : Fr.F) : (f == g) = (f.buf == g.buf && (f.depth == g.depth && (f.quote == g.quote && (f.skip == g.skip && (f.closed == g.closed && true))))) := by
  obtain ⟨b, d, q, k, c⟩ := f
  obtain ⟨b', d', q', k', c'⟩ := g
  rw [Bool.eq_iff_iff]
  simp
theorem framerOK_ok (f : Fr.F) (hb : f.buf.length ≤ 1048576) : FnOK Try.prog fFramerOK [.agg (vwF f)] [] ⟨.bool (okF f), [], []⟩ := by
  refine fnOK_TL (E := EIG) follows named (framerOKT f) (by simp) ?_
  simp only [WP_cond, T.WP, All, decide_eq_true_eq, decide_eq_false_iff_not, and_true, beq_iff_eq, beq_eq_false_iff_ne, ne_eq]
  unfold okF
  refine ⟨fun hc => ⟨?_, rfl, by simp⟩, fun hc => ⟨fun h => ⟨?_, rfl, by simp⟩, fun h => ?_⟩⟩
  · rw [hc, F.beq]; simp [Fr.F.shut, hc]
  · rw [hc, decide_eq_true (show 3000 < f.buf.length by omega)]; rfl
  · rintro y rfl
    have hl : decide (3000 < f.buf.length) = false := decide_eq_false (by omega)
    refine ⟨ifeedS_ok GF.zero f.buf hb, fun h0 => ⟨?_, rfl, by simp⟩, fun h0 => ⟨?_, rfl, by simp⟩⟩
    · have h0' : ((Fr.sFeed Fr.F.zero f.buf).out.length == 0) = true := by
        have : (((Fr.sFeed Fr.F.zero f.buf).out.length : Nat) : Int) = 0 := h0
        simp only [beq_iff_eq]; omega
      refine congrArg V.bool ((F.beq (Fr.sFeed Fr.F.zero f.buf).f f).symm.trans ?_)
      rw [hl, h0', hc]; rfl
    · have h0' : ((Fr.sFeed Fr.F.zero f.buf).out.length == 0) = false := by
        have : ¬ (((Fr.sFeed Fr.F.zero f.buf).out.length : Nat) : Int) = 0 := h0
        rw [beq_eq_false_iff_ne]; omega
      rw [hc, hl, h0']; rfl
theorem frameText_ok (t : List UInt8) (ht : t.length ≤ 65536) : FnOK Try.prog fFrameText [.str t] [] ⟨.tup [.int .i64 (Fr.sFeed Fr.F.zero t).out.length, .bool (Fr.sFeed Fr.F.zero t).f.closed, .int .i64 0], [], []⟩ := by
  refine fnOK_TL (E := EIG) follows named (frameTextT t) (by simp) ?_
  simp only [WP_cond, T.WP, All, decide_eq_true_eq, decide_eq_false_iff_not, and_true, beq_iff_eq, beq_eq_false_iff_ne, ne_eq]
  rintro y rfl
  refine ⟨isText_ok t, fun h => ?_, fun _ => ?_⟩
  · simp [ht] at h
  rintro y rfl
  exact ⟨ifeedS_ok GF.zero t (by omega), ⟨rfl, rfl, by simp⟩⟩
theorem iFeed_ok {f : Fr.F} (hf : GF f) (t : List UInt8) (ht : t.length ≤ 65536) (ho : okF f = true) : FnOK Try.prog fFeed [.agg (vwF f), .str t] [] ⟨bif f.closed then .tup [.agg (vwF f), .dsl 0 false [], .int .i64 17] else .tup [.agg (vwF (Fr.sFeed f t).f), sls encStr (Fr.sFeed f t).out, .int .i64 0], [], []⟩ := by
  refine fnOK_TL (E := EIG) follows named (iFeedT f t) (by simp) ?_
  simp only [WP_cond, T.WP, All, decide_eq_true_eq, decide_eq_false_iff_not, and_true, beq_iff_eq, beq_eq_false_iff_ne, ne_eq]
  obtain ⟨buf, d, q, k, c⟩ := f
  rintro y rfl
  refine ⟨isText_ok t, fun h => ?_, fun _ => ?_⟩
  · simp [ht] at h
  rintro y rfl
  refine ⟨framerOK_ok _ (by have := hf.bufb; omega), fun h => ?_, fun _ => ⟨fun hc => ?_, fun hc => ?_⟩⟩
  · have : okF ⟨buf, d, q, k, c⟩ = false := by simpa using h
    rw [ho] at this; cases this
  · refine ⟨?_, rfl, by simp⟩
    simp only at hc; subst hc; rfl
  · rintro y rfl
    simp only at hc; subst hc
    exact ⟨ifeedS_ok hf t (by omega), ⟨rfl, rfl, by simp⟩⟩

end Go.Proofs.Ytopebociobgmhaa

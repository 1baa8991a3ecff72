/-
  The reference's framer: a text is fed.
-/
import Derived.Test.YtopebociobgmhaaRk
namespace Go.Proofs.Ytopebociobgmhaa
open Go.RowKit

abbrev tF : Nat := 29
def fB (f : Fr.F) : Option Blk := some (vwF f, tF)
def stF1 (f : Fr.F) (t : List UInt8) (i : Int) (L : List (List UInt8)) (b : Bool) : St := ⟨mkTm 40 [(1, .str t), (2, .ptr 0 0), (4, .ptr 1 0), (5, .dsl 0 true []), (6, .sl 2 0 L.length b), (7, .int .i64 i)], [fB f, fB Fr.F.zero, strB L], []⟩
def nfF : Ex → Kp := fun ex => match ex with
  | .normal => { keep := [1, 2, 4, 5, 6, 7] }
  | _ => { keep := [1, 2, 4, 5, 6] }

--FOLD fB strB
set_option maxRecDepth 100000 in
theorem feed1T (f : Fr.F) (t : List UInt8) (i : Int) (L : List (List UInt8)) (b : Bool) : bodyT ESF 0 nfF (lp Try.prog fSFeed 0) (stF1 f t i L b) =
  bif decide (i < (↑(List.length t) : Int)) then
    bif !Fr.F.closed f then
      T.need [(0 : Int) ≤ i ∧ i < (↑(List.length t) : Int)]
        (T.bind (Fr.sByte (Fr.F.mk (Fr.F.buf f) (Fr.F.depth f) (Fr.F.quote f) (Fr.F.skip f) (Fr.F.closed f)) (UInt8.ofNat (Int.toNat (↑(UInt8.toNat (List.getD t (Int.toNat i) (0 : UInt8))) : Int)))) fun y0 =>
          T.need
            [FnOK (Env.P ESF) 34
                [V.agg [V.str (Fr.F.buf f), V.int IntKind.i64 (Fr.F.depth f), V.bool (Fr.F.quote f), V.bool (Fr.F.skip f), V.bool (Fr.F.closed f)],
                  V.int IntKind.u8 (↑(UInt8.toNat (List.getD t (Int.toNat i) (0 : UInt8))) : Int)]
                []
                (Ret.mk
                  (V.tup
                    [V.agg [V.str (Fr.F.buf (Prod.fst y0)), V.int IntKind.i64 (Fr.F.depth (Prod.fst y0)), V.bool (Fr.F.quote (Prod.fst y0)), V.bool (Fr.F.skip (Prod.fst y0)), V.bool (Fr.F.closed (Prod.fst y0))],
                      V.bool (Prod.snd y0)])
                  [] [])]
            (bif Prod.snd y0 then
              T.need
                [0 = 0, List.length (encs encStr L) = List.length L * 1, List.length L + 1 ≤ 9223372036854775807, (List.length L + 1) * 16 ≤ 140737488355328]
                (T.done
                  (Ex.normal,
                    St.mk
                      (mkTm 40
                        [(1, V.str t), (2, V.ptr 0 0), (4, V.ptr 1 0), (5, V.dsl 0 true []),
                          (6, V.sl 2 0 (List.length L + 1) false), (7, V.int IntKind.i64 (IntKind.wrap IntKind.i64 (i + (1 : Int))))])
                      [some ([V.str [], V.int IntKind.i64 (0 : Int), V.bool false, V.bool false, V.bool false], 29),
                        some ([V.str [], V.int IntKind.i64 (0 : Int), V.bool false, V.bool false, V.bool false], 29), some ([V.sld (encs encStr L ++ [V.str (Fr.F.buf (Prod.fst y0))])], 9)]
                      []))
            else
              T.done
                (Ex.normal,
                  St.mk
                    (mkTm 40
                      [(1, V.str t), (2, V.ptr 0 0), (4, V.ptr 1 0), (5, V.dsl 0 true []), (6, V.sl 2 0 (List.length L) b),
                        (7, V.int IntKind.i64 (IntKind.wrap IntKind.i64 (i + (1 : Int))))])
                    [fB (Prod.fst y0), some ([V.str [], V.int IntKind.i64 (0 : Int), V.bool false, V.bool false, V.bool false], 29), strB L] [])))
    else
      T.done
        (Ex.exit 0,
          St.mk
            (mkTm 40
              [(1, V.str t), (2, V.ptr 0 0), (4, V.ptr 1 0), (5, V.dsl 0 true []), (6, V.sl 2 0 (List.length L) b)])
            [fB f, some ([V.str [], V.int IntKind.i64 (0 : Int), V.bool false, V.bool false, V.bool false], 29), strB L] [])
  else
    T.done
      (Ex.exit 0,
        St.mk
          (mkTm 40
            [(1, V.str t), (2, V.ptr 0 0), (4, V.ptr 1 0), (5, V.dsl 0 true []), (6, V.sl 2 0 (List.length L) b)])
          [fB f, some ([V.str [], V.int IntKind.i64 (0 : Int), V.bool false, V.bool false, V.bool false], 29), strB L] []) := by kernel_rfl

def stX1 (f : Fr.F) (t : List UInt8) (L : List (List UInt8)) (b : Bool) : St := ⟨mkTm 40 [(1, .str t), (2, .ptr 0 0), (4, .ptr 1 0), (5, .dsl 0 true []), (6, .sl 2 0 L.length b)], [fB f, fB Fr.F.zero, strB L], []⟩
theorem sFold_closed : ∀ (t : List UInt8) (x : Fr.SS), x.f.closed = true → t.foldl Fr.sStep x = x
  | [], _, _ => rfl
  | b :: t, x, h => by
    have : Fr.sStep x b = x := by unfold Fr.sStep; rw [if_pos h]
    rw [List.foldl_cons, this]; exact sFold_closed t x h
theorem sStep_len (x : Fr.SS) (b : UInt8) : x.out.length ≤ (Fr.sStep x b).out.length := by
  unfold Fr.sStep
  split
  · exact Nat.le_refl _
  · split
    · simp
    · exact Nat.le_refl _
theorem sFold_len : ∀ (t : List UInt8) (x : Fr.SS), x.out.length ≤ (t.foldl Fr.sStep x).out.length
  | [], _ => Nat.le_refl _
  | b :: t, x => by rw [List.foldl_cons]; exact Nat.le_trans (sStep_len x b) (sFold_len t _)
theorem done_bd {s : Fr.IS} (h : s.ok) : (-1000 ≤ s.done.depth ∧ s.done.depth ≤ 1000) ∧ s.done.buf.length ≤ 100000 := by
  unfold Fr.IS.done
  split
  · simp [Fr.F.shut]
  · rename_i hc
    rcases h with h | h
    · exact absurd h hc
    · simp only; omega
theorem step_next {s : Fr.IS} (h : s.ok) (b : UInt8) (hc : s.done.closed = false) : (Fr.iStep s b).ok ∧ (Fr.iStep s b).done = (if (Fr.sByte s.done b).2 then Fr.F.zero else (Fr.sByte s.done b).1) ∧ (Fr.iStep s b).out = (if (Fr.sByte s.done b).2 then s.out ++ [(Fr.sByte s.done b).1.buf] else s.out) := by
  obtain ⟨h1, h2⟩ := Fr.step_alike s b h
  refine ⟨h1, ?_⟩
  unfold Fr.sStep at h2
  simp only [hc, Bool.false_eq_true, if_false] at h2
  split at h2
  · rename_i h3
    have e1 := congrArg Fr.SS.f h2
    have e2 := congrArg Fr.SS.out h2
    simp only [h3, if_true] at e1 e2 ⊢
    exact ⟨e1.symm, e2.symm⟩
  · rename_i h3
    have e1 := congrArg Fr.SS.f h2
    have e2 := congrArg Fr.SS.out h2
    simp only [h3] at e1 e2 ⊢
    exact ⟨e1.symm, e2.symm⟩

theorem feed1_loop (t : List UInt8) (ht : t.length ≤ 1048576) : ∀ (m i : Nat) (s : Fr.IS) (b : Bool), s.ok → i + m = t.length → s.out.length + m ≤ 2000000 →
    LoopTo Try.prog 0 (lp Try.prog fSFeed 0) (stF1 s.done t i s.out b) (.exit 0) (stX1 ((t.drop i).foldl Fr.sStep ⟨s.done, s.out⟩).f t ((t.drop i).foldl Fr.sStep ⟨s.done, s.out⟩).out (b && ((t.drop i).foldl Fr.sStep ⟨s.done, s.out⟩).out.length == s.out.length))
  | 0, i, s, b, hs, h1, h2 => by
    refine loopT (E := ESF) follows named (feed1T s.done t i s.out b) ?_
    simp only [WP_cond, T.WP, All, decide_eq_true_eq, decide_eq_false_iff_not, and_true, beq_iff_eq, beq_eq_false_iff_ne, ne_eq]
    refine ⟨fun h => by omega, fun _ => ⟨rfl, ?_⟩⟩
    rw [List.drop_of_length_le (by omega)]
    simp only [List.foldl_nil, beq_self_eq_true, Bool.and_true]
    rfl
  | m + 1, i, s, b, hs, h1, h2 => by
    refine loopT (E := ESF) follows named (feed1T s.done t i s.out b) ?_
    have hd : t.drop i = t.getD i 0 :: t.drop (i + 1) := by
      rw [List.drop_eq_getElem_cons (by omega), List.getD_eq_getElem?_getD, List.getElem?_eq_getElem (by omega)]; rfl
    have hb := done_bd hs
    simp only [WP_cond, T.WP, All, decide_eq_true_eq, decide_eq_false_iff_not, and_true, beq_iff_eq, beq_eq_false_iff_ne, ne_eq, Int.toNat_natCast, UInt8.ofNat_toNat, wrap_succ (show i < 9223372036854775807 by omega)]
    refine ⟨fun _ => ⟨fun hc => ⟨by omega, ?_⟩, fun hc => ?_⟩, fun h => by omega⟩
    · have hc' : s.done.closed = false := by simpa using hc
      obtain ⟨k1, k2, k3⟩ := step_next hs (t.getD i 0) hc'
      have ih := fun b => feed1_loop t ht m (i + 1) (Fr.iStep s (t.getD i 0)) b k1 (by omega)
      have hf : ((t.drop i).foldl Fr.sStep ⟨s.done, s.out⟩) = (t.drop (i + 1)).foldl Fr.sStep ⟨(Fr.iStep s (t.getD i 0)).done, (Fr.iStep s (t.getD i 0)).out⟩ := by
        rw [hd, List.foldl_cons, (Fr.step_alike s (t.getD i 0) hs).2]
      rw [hf]
      rintro y rfl
      refine ⟨sbyte_ok s.done _ hb.1 hb.2, fun hy => ⟨⟨trivial, layStr.length _, by omega, by omega⟩, ?_⟩, fun hy => ?_⟩
      · rw [hy] at k2 k3
        simp only [if_true] at k2 k3
        have hlen := sFold_len (t.drop (i + 1)) ⟨(Fr.iStep s (t.getD i 0)).done, (Fr.iStep s (t.getD i 0)).out⟩
        simp only [k3, List.length_append, List.length_cons, List.length_nil] at hlen
        rw [k2, k3] at ih ⊢
        rw [k2] at hlen
        rw [show (b && (List.foldl Fr.sStep ⟨Fr.F.zero, s.out ++ [(Fr.sByte s.done (t.getD i 0)).1.buf]⟩ (t.drop (i + 1))).out.length == s.out.length) = false by
          rw [beq_eq_false_iff_ne.2 (by omega)]; simp]
        have ih := ih false (by simp; omega)
        simp only [stF1, List.length_append, List.length_cons, List.length_nil, strB, encs_append, encs_one, Bool.false_and] at ih
        exact ih
      · rw [hy] at k2 k3
        simp only [Bool.false_eq_true, if_false] at k2 k3
        rw [k2, k3] at ih ⊢
        exact ih b (by omega)
    · have hc' : s.done.closed = true := by simpa using hc
      rw [sFold_closed _ _ hc']
      simp only [beq_self_eq_true, Bool.and_true]
      exact ⟨rfl, rfl⟩

noncomputable def lsFeed : Nat → St → Option LRes := fun id s => match id, s.hp, s.tm.get 1 with
  | 0, some ([.str buf, .int _ d, .bool q, .bool k, .bool c], _) :: _, .str t => some ⟨t.foldl Fr.sStep ⟨⟨buf, d, q, k, c⟩, []⟩, fun y => .one { keep := [1, 2, 4, 5, 6, 7] } (stF1 ⟨buf, d, q, k, c⟩ t 0 [] true) (.exit 0) (stX1 y.f t y.out (true && y.out.length == 0))⟩
  | _, _, _ => none

set_option maxRecDepth 100000 in
theorem sfeedT (f : Fr.F) (t : List UInt8) : fnT { P := Try.prog, vw := vwA, res := res0, ls := lsFeed } 0 fSFeed [.agg (vwF f), .str t] [] =
  T.bind (List.foldl Fr.sStep (Fr.SS.mk (Fr.F.mk (Fr.F.buf f) (Fr.F.depth f) (Fr.F.quote f) (Fr.F.skip f) (Fr.F.closed f)) []) t) fun y0 =>
    T.need
      [St.mk
            (mkTm 40
              [(1, V.str t), (2, V.ptr 0 0), (4, V.ptr 1 0), (5, V.dsl 0 true []), (6, V.sl 2 0 0 true),
                (7, V.int IntKind.i64 (0 : Int))])
            [fB f, some ([V.str [], V.int IntKind.i64 (0 : Int), V.bool false, V.bool false, V.bool false], 29), some ([V.sld []], 9)] [] =
          St.mk
            (mkTm 40
              [(1, V.str t), (2, V.ptr 0 0), (4, V.ptr 1 0), (5, V.dsl 0 true []), (6, V.sl 2 0 0 true),
                (7, V.int IntKind.i64 (0 : Int))])
            [fB (Fr.F.mk (Fr.F.buf f) (Fr.F.depth f) (Fr.F.quote f) (Fr.F.skip f) (Fr.F.closed f)), some ([V.str [], V.int IntKind.i64 (0 : Int), V.bool false, V.bool false, V.bool false], 29),
              some ([V.sld []], 9)]
            [],
        SoundC (Env.P (Env.mk Try.prog vwA res0 lsFeed [])) 0 (blk Try.prog fSFeed 0)
          (St.mk
            (mkTm 40
              [(1, V.str t), (2, V.ptr 0 0), (4, V.ptr 1 0), (5, V.dsl 0 true []), (6, V.sl 2 0 0 true),
                (7, V.int IntKind.i64 (0 : Int))])
            [fB (Fr.F.mk (Fr.F.buf f) (Fr.F.depth f) (Fr.F.quote f) (Fr.F.skip f) (Fr.F.closed f)), some ([V.str [], V.int IntKind.i64 (0 : Int), V.bool false, V.bool false, V.bool false], 29),
              some ([V.sld []], 9)]
            [])
          (Ex.exit 0)
          (St.mk
            (mkTm 40
              [(1, V.str t), (2, V.ptr 0 0), (4, V.ptr 1 0), (5, V.dsl 0 true []),
                (6, V.sl 2 0 (List.length (Fr.SS.out y0)) (true && List.length (Fr.SS.out y0) == 0))])
            [fB (Fr.SS.f y0), some ([V.str [], V.int IntKind.i64 (0 : Int), V.bool false, V.bool false, V.bool false], 29), strB (Fr.SS.out y0)] [])]
      (T.done
        (Ret.mk
          (V.tup
            [V.agg [V.str (Fr.F.buf (Fr.SS.f y0)), V.int IntKind.i64 (Fr.F.depth (Fr.SS.f y0)), V.bool (Fr.F.quote (Fr.SS.f y0)), V.bool (Fr.F.skip (Fr.SS.f y0)), V.bool (Fr.F.closed (Fr.SS.f y0))],
              V.dsl (List.length (Fr.SS.out y0)) false (encs encStr (Fr.SS.out y0))])
          [] [])) := (T.force_eq _).symm.trans (by kernel_rfl)

theorem sfeed_ok (s : Fr.IS) (hs : s.ok) (ho : s.out = []) (t : List UInt8) (ht : t.length ≤ 1048576) : FnOK Try.prog fSFeed [.agg (vwF s.done), .str t] [] ⟨.tup [.agg (vwF (Fr.sFeed s.done t).f), sls encStr (Fr.sFeed s.done t).out], [], []⟩ := by
  refine fnOK_TL (E := { P := Try.prog, vw := vwA, res := res0, ls := lsFeed }) follows named (sfeedT s.done t) (by simp) ?_
  simp only [WP_cond, T.WP, All, decide_eq_true_eq, decide_eq_false_iff_not, and_true, beq_iff_eq, beq_eq_false_iff_ne, ne_eq]
  have h0 := feed1_loop t ht t.length 0 s true hs (by omega) (by rw [ho]; simp; omega)
  rw [List.drop_zero, ho] at h0
  rintro y rfl
  exact ⟨⟨trivial, .loopTo h0⟩, ⟨rfl, rfl, by simp⟩⟩

end Go.Proofs.Ytopebociobgmhaa

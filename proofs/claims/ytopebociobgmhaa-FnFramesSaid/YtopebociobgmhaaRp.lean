/-
  The program's framer: a round from no beginning; all rounds of a text.
-/
import Derived.Test.YtopebociobgmhaaRo
namespace Go.Proofs.Ytopebociobgmhaa
open Go.RowKit

theorem stepN (b0 t : List UInt8) (g : Fr.G) (L : List (List UInt8)) (bo bb : Bool) (i : Nat) (hi : i < t.length) (ht : t.length ≤ 1048576) (hc : g.closed = false) (hd : -1000 ≤ g.depth ∧ g.depth ≤ 1000) (hL : L.length ≤ 2000000) {S : St}
    (hS : LoopTo Try.prog 1 (lp Try.prog fIFeed 0) (stI b0 t (IX.step ⟨⟨g, [], L⟩, true, bo, bb⟩ (t.getD i 0)) ((i + 1 : Nat) : Int)) (.exit 0) S) : LoopTo Try.prog 1 (lp Try.prog fIFeed 0) (stN b0 t g L i bo) (.exit 0) S := by
  refine loopT (E := EIF) follows named (ifeedN b0 t g L i bo) ?_
  have hn : 0 ≤ ((t.getD i 0).toNat : Int) ∧ ((t.getD i 0).toNat : Int) < 256 := by
    have := (t.getD i 0).toNat_lt; omega
  have hlL := layStr.length L
  simp only [WP_cond, T.WP, All, decide_eq_true_eq, decide_eq_false_iff_not, and_true, beq_iff_eq, beq_eq_false_iff_ne, ne_eq, Int.toNat_natCast, UInt8.ofNat_toNat, wrap_succ (show i < 9223372036854775807 by omega), show decL encByte [] = [] from layByte.decL [], List.nil_append]
  generalize t.getD i 0 = b at *
  obtain ⟨d, q, k, c⟩ := g
  simp only at hc hd; subst hc; simp only
  have e1 : d = 0 → Fr.blank b.toNat = true → IX.step ⟨⟨⟨d, q, k, false⟩, [], L⟩, true, bo, bb⟩ b = ⟨⟨⟨d, q, k, false⟩, [], L⟩, true, bo, bb⟩ := by
    intro a1 a2; simp [IX.step, Fr.iStep, a1, a2]
  have e2 : d = 0 → Fr.blank b.toNat = false → ¬ (b.toNat : Int) = 123 → ¬ (b.toNat : Int) = 91 → IX.step ⟨⟨⟨d, q, k, false⟩, [], L⟩, true, bo, bb⟩ b = ⟨⟨⟨d, q, k, true⟩, [], L⟩, true, bo, bb⟩ := by
    intro a1 a2 a3 a4; simp [IX.step, Fr.iStep, a1, a2, a3, a4]
  have e3 : (d = 0 → Fr.blank b.toNat = false ∧ ((b.toNat : Int) = 123 ∨ (b.toNat : Int) = 91)) → (Fr.inText ⟨d, q, k, false⟩ b.toNat false).2 = true → IX.step ⟨⟨⟨d, q, k, false⟩, [], L⟩, true, bo, bb⟩ b = ⟨⟨(Fr.inText ⟨d, q, k, false⟩ b.toNat false).1, [], L ++ [[b]]⟩, true, false, bb⟩ := by
    intro a1 a2
    have n1 : ¬ (d = 0 ∧ Fr.blank b.toNat = true) := by rintro ⟨r, l⟩; simp [(a1 r).1] at l
    have n2 : ¬ ((d = 0 ∧ ¬ (b.toNat : Int) = 123) ∧ ¬ (b.toNat : Int) = 91) := by rintro ⟨⟨u, l⟩, m⟩; rcases (a1 u).2 with r | r <;> contradiction
    simp only [IX.step, Fr.iStep, Bool.false_eq_true, if_false, Bool.and_eq_true, beq_iff_eq, bne_iff_ne, ne_eq, if_neg n1, if_neg n2, a2, if_true, List.length_nil, show decide ((3000 : Int) < ((0 : Nat) : Int) + 1) = false from rfl, List.nil_append]
  have e4 : (d = 0 → Fr.blank b.toNat = false ∧ ((b.toNat : Int) = 123 ∨ (b.toNat : Int) = 91)) → (Fr.inText ⟨d, q, k, false⟩ b.toNat false).2 = false → IX.step ⟨⟨⟨d, q, k, false⟩, [], L⟩, true, bo, bb⟩ b = ⟨⟨(Fr.inText ⟨d, q, k, false⟩ b.toNat false).1, [b], L⟩, false, bo, false⟩ := by
    intro a1 a2
    have n1 : ¬ (d = 0 ∧ Fr.blank b.toNat = true) := by rintro ⟨r, l⟩; simp [(a1 r).1] at l
    have n2 : ¬ ((d = 0 ∧ ¬ (b.toNat : Int) = 123) ∧ ¬ (b.toNat : Int) = 91) := by rintro ⟨⟨u, l⟩, m⟩; rcases (a1 u).2 with r | r <;> contradiction
    simp only [IX.step, Fr.iStep, Bool.false_eq_true, if_false, Bool.and_eq_true, beq_iff_eq, bne_iff_ne, ne_eq, if_neg n1, if_neg n2, a2, if_false, Bool.false_eq_true, List.length_nil, show decide ((3000 : Int) < ((0 : Nat) : Int) + 1) = false from rfl, List.nil_append]
  simp only [bne_iff_ne, ne_eq, bne_eq_false_iff_eq, Decidable.not_not, gt_iff_lt, Bool.not_false, true_implies]
  repeat' with_reducible first
    | intro h
    | apply And.intro
  all_goals first
    | omega
    | trivial
    | rfl
    | (simp only [List.length_append, List.length_cons, List.length_nil]; done)
    | (simp only [List.length_append, List.length_cons, List.length_nil]; omega)
    | (subst_vars; exact blank_ok _)
    | (subst_vars; exact inText_ok _ _ _ _ hn hd)
    | (subst_vars; rw [e1 (by first | rfl | assumption | (apply Eq.symm; assumption)) (by first | rfl | assumption | (apply Eq.symm; assumption))] at hS; exact hS)
    | (subst_vars; rw [e2 (by first | rfl | assumption | (apply Eq.symm; assumption)) (by first | rfl | assumption | (apply Eq.symm; assumption)) (by first | rfl | assumption | (apply Eq.symm; assumption)) (by first | rfl | assumption | (apply Eq.symm; assumption))] at hS; exact hS)
    | (subst_vars; rw [e3 (by intro z; first | exact absurd z (by assumption) | exact ⟨(by first | rfl | assumption | (apply Eq.symm; assumption)), by first | exact .inl (by assumption) | exact .inr (by assumption)⟩) (by first | rfl | assumption | (apply Eq.symm; assumption))] at hS; simp [stI, stN, gB, strB, bytB, encs_append, encs_one, encByte, encStr] at hS ⊢; exact hS)
    | (subst_vars; rw [e4 (by intro z; first | exact absurd z (by assumption) | exact ⟨(by first | rfl | assumption | (apply Eq.symm; assumption)), by first | exact .inl (by assumption) | exact .inr (by assumption)⟩) (by first | rfl | assumption | (apply Eq.symm; assumption))] at hS; simp [stI, stG, gB, strB, bytB, encs_append, encs_one, encByte, encStr] at hS ⊢; exact hS)
    | (exfalso; simp_all; done)
    | skip

def stIE (b0 t : List UInt8) (x : IX) : St := match x.nb with
  | true => ⟨mkTm 86 [(0, .ptr 0 0), (1, .str t), (5, .sl 1 0 x.s.out.length x.bo), (6, .dsl 0 true [])], [gB b0 x.s.g, strB x.s.out], [0]⟩
  | false => ⟨mkTm 86 [(0, .ptr 0 0), (1, .str t), (5, .sl 1 0 x.s.out.length x.bo), (6, .sl 2 0 x.s.buf.length x.bb)], [gB b0 x.s.g, strB x.s.out, bytB x.s.buf], [0]⟩

theorem ifeed_end (b0 t : List UInt8) (x : IX) (i : Nat) (hx : x.nb = true → x.s.buf = []) (h : i < t.length → x.s.g.closed = true) : LoopTo Try.prog 1 (lp Try.prog fIFeed 0) (stI b0 t x i) (.exit 0) (stIE b0 t x) := by
  obtain ⟨⟨g, buf, out⟩, nb, bo, bb⟩ := x
  simp only at hx h
  cases nb
  · refine loopT (E := EIF) follows named (ifeedG b0 t g buf out i bo bb) ?_
    simp only [WP_cond, T.WP, All, decide_eq_true_eq, decide_eq_false_iff_not, and_true, beq_iff_eq, beq_eq_false_iff_ne, ne_eq]
    refine ⟨fun h1 => ⟨fun h2 => ?_, fun h2 => ⟨rfl, rfl⟩⟩, fun h1 => ⟨rfl, rfl⟩⟩
    rw [h (by omega)] at h2; cases h2
  · refine loopT (E := EIF) follows named (ifeedN b0 t g out i bo) ?_
    simp only [WP_cond, T.WP, All, decide_eq_true_eq, decide_eq_false_iff_not, and_true, beq_iff_eq, beq_eq_false_iff_ne, ne_eq]
    refine ⟨fun h1 => ⟨fun h2 => ?_, fun h2 => ⟨rfl, rfl⟩⟩, fun h1 => ⟨rfl, rfl⟩⟩
    rw [h (by omega)] at h2; cases h2

theorem IX.step_nb (x : IX) (b : UInt8) (h : x.nb = true → x.s.buf = []) : (x.step b).nb = true → (x.step b).s.buf = [] := by
  unfold IX.step Fr.iStep
  split
  · exact h
  · split
    · exact h
    · split
      · exact h
      · split
        · intro; rfl
        · intro k; cases k
theorem iStep_out (s : Fr.IS) (b : UInt8) : (Fr.iStep s b).out.length ≤ s.out.length + 1 := by
  unfold Fr.iStep
  repeat' split
  all_goals simp
theorem IX.fold_closed (t : List UInt8) (x : IX) (h : x.s.g.closed = true) : t.foldl IX.step x = x := by
  induction t with
  | nil => rfl
  | cons b t ih => rw [List.foldl_cons, show x.step b = x by unfold IX.step; rw [if_pos h]]; exact ih
theorem IX.fold_s (t : List UInt8) (x : IX) : (t.foldl IX.step x).s = t.foldl Fr.iStep x.s := by
  induction t generalizing x with
  | nil => rfl
  | cons b t ih => rw [List.foldl_cons, List.foldl_cons, ih, IX.step_s]

theorem ifeed_loop (b0 t : List UInt8) (ht : t.length ≤ 1048576) : ∀ (m i : Nat) (x : IX), x.s.ok → (x.nb = true → x.s.buf = []) → i + m = t.length → x.s.out.length ≤ i →
    LoopTo Try.prog 1 (lp Try.prog fIFeed 0) (stI b0 t x i) (.exit 0) (stIE b0 t ((t.drop i).foldl IX.step x))
  | 0, i, x, hs, hx, h1, h2 => by
    rw [List.drop_of_length_le (by omega)]
    exact ifeed_end b0 t x i hx (fun h => by omega)
  | m + 1, i, x, hs, hx, h1, h2 => by
    by_cases hc : x.s.g.closed = true
    · rw [IX.fold_closed _ _ hc]
      exact ifeed_end b0 t x i hx (fun _ => hc)
    have hc : x.s.g.closed = false := by simpa using hc
    have hd : t.drop i = t.getD i 0 :: t.drop (i + 1) := by
      rw [List.drop_eq_getElem_cons (by omega), List.getD_eq_getElem?_getD, List.getElem?_eq_getElem (by omega)]; rfl
    have hk := (Fr.step_alike x.s (t.getD i 0) hs).1
    have ho := iStep_out x.s (t.getD i 0)
    rw [← IX.step_s] at hk ho
    have ih := ifeed_loop b0 t ht m (i + 1) (x.step (t.getD i 0)) hk (x.step_nb _ hx) (by omega) (by omega)
    rw [hd, List.foldl_cons]
    rcases hs with hs | ⟨k1, k2, k3, -, -⟩
    · rw [hc] at hs; cases hs
    obtain ⟨⟨g, buf, out⟩, nb, bo, bb⟩ := x
    simp only at *
    cases nb
    · exact stepG b0 t g buf out bo bb i (by omega) ht hc (by omega) (by omega) (by omega) ih
    · have := hx rfl
      subst this
      exact stepN b0 t g out bo bb i (by omega) ht hc (by omega) (by omega) ih

noncomputable def lsIF : Nat → St → Option LRes := fun id s => match id, s.hp, s.tm.get 1, s.tm.get 5, s.tm.get 6 with
  | 0, some ([.str buf, .int _ d, .bool q, .bool k, .bool c], _) :: _, .str t, .sl _ _ _ bo, .sl _ _ _ bb => some ⟨t.foldl IX.step ⟨⟨⟨d, q, k, c⟩, buf, []⟩, false, bo, bb⟩, fun y => .two { keep := [0, 1, 5, 6, 7], wr := [0] } (stG buf t ⟨d, q, k, c⟩ buf [] 0 bo bb) y.nb (.exit 0) (stIE buf t ⟨y.s, true, y.bo, y.bb⟩) (.exit 0) (stIE buf t ⟨y.s, false, y.bo, y.bb⟩)⟩
  | _, _, _, _, _ => none
noncomputable def EIfd : Env := { P := Try.prog, vw := vwA, res := resIF, ls := lsIF }

set_option maxRecDepth 100000 in
theorem ifdT (buf : List UInt8) (g : Fr.G) (t : List UInt8) : fnT EIfd 0 fIFeed [.ptr 0 0, .str t] [gB buf g] =
  T.need [List.length buf ≤ 9223372036854775807]
    (T.bind (List.foldl IX.step (IX.mk (Fr.IS.mk (Fr.G.mk (Fr.G.depth g) (Fr.G.quote g) (Fr.G.skip g) (Fr.G.closed g)) buf []) false true false) t) fun y0 =>
      T.need
        [St.mk
              (mkTm 86
                [(0, V.ptr 0 0), (1, V.str t), (5, V.sl 1 0 0 true), (6, V.sl 2 0 (List.length buf) false),
                  (7, V.int IntKind.i64 (0 : Int))])
              [some ([V.str buf, V.int IntKind.i64 (Fr.G.depth g), V.bool (Fr.G.quote g), V.bool (Fr.G.skip g), V.bool (Fr.G.closed g)], 29), some ([V.sld []], 9), some ([V.sld (byts buf)], 5)]
              [0] =
            St.mk
              (mkTm 86
                [(0, V.ptr 0 0), (1, V.str t), (5, V.sl 1 0 0 true), (6, V.sl 2 0 (List.length buf) false),
                  (7, V.int IntKind.i64 (0 : Int))])
              [some
                  ([V.str buf, V.int IntKind.i64 (Fr.G.depth (Fr.G.mk (Fr.G.depth g) (Fr.G.quote g) (Fr.G.skip g) (Fr.G.closed g))),
                      V.bool (Fr.G.quote (Fr.G.mk (Fr.G.depth g) (Fr.G.quote g) (Fr.G.skip g) (Fr.G.closed g))), V.bool (Fr.G.skip (Fr.G.mk (Fr.G.depth g) (Fr.G.quote g) (Fr.G.skip g) (Fr.G.closed g))),
                      V.bool (Fr.G.closed (Fr.G.mk (Fr.G.depth g) (Fr.G.quote g) (Fr.G.skip g) (Fr.G.closed g)))],
                    29),
                some ([V.sld []], 9), some ([V.sld (encs encByte buf)], 5)]
              [0]]
        (bif IX.nb y0 then
          T.need
            [SoundC (Env.P EIfd) 1 (blk Try.prog fIFeed 0)
                (St.mk
                  (mkTm 86
                    [(0, V.ptr 0 0), (1, V.str t), (5, V.sl 1 0 0 true), (6, V.sl 2 0 (List.length buf) false),
                      (7, V.int IntKind.i64 (0 : Int))])
                  [some
                      ([V.str buf, V.int IntKind.i64 (Fr.G.depth (Fr.G.mk (Fr.G.depth g) (Fr.G.quote g) (Fr.G.skip g) (Fr.G.closed g))),
                          V.bool (Fr.G.quote (Fr.G.mk (Fr.G.depth g) (Fr.G.quote g) (Fr.G.skip g) (Fr.G.closed g))), V.bool (Fr.G.skip (Fr.G.mk (Fr.G.depth g) (Fr.G.quote g) (Fr.G.skip g) (Fr.G.closed g))),
                          V.bool (Fr.G.closed (Fr.G.mk (Fr.G.depth g) (Fr.G.quote g) (Fr.G.skip g) (Fr.G.closed g)))],
                        29),
                    some ([V.sld []], 9), some ([V.sld (encs encByte buf)], 5)]
                  [0])
                (Ex.exit 0)
                (St.mk
                  (mkTm 86
                    [(0, V.ptr 0 0), (1, V.str t),
                      (5, V.sl 1 0 (List.length (Fr.IS.out (IX.s (IX.mk (IX.s y0) true (IX.bo y0) (IX.bb y0))))) (IX.bo (IX.mk (IX.s y0) true (IX.bo y0) (IX.bb y0)))),
                      (6, V.dsl 0 true [])])
                  [some
                      ([V.str buf, V.int IntKind.i64 (Fr.G.depth (Fr.IS.g (IX.s (IX.mk (IX.s y0) true (IX.bo y0) (IX.bb y0))))), V.bool (Fr.G.quote (Fr.IS.g (IX.s (IX.mk (IX.s y0) true (IX.bo y0) (IX.bb y0))))),
                          V.bool (Fr.G.skip (Fr.IS.g (IX.s (IX.mk (IX.s y0) true (IX.bo y0) (IX.bb y0))))), V.bool (Fr.G.closed (Fr.IS.g (IX.s (IX.mk (IX.s y0) true (IX.bo y0) (IX.bb y0)))))],
                        29),
                    some ([V.sld (encs encStr (Fr.IS.out (IX.s (IX.mk (IX.s y0) true (IX.bo y0) (IX.bb y0)))))], 9)]
                  [0])]
            (T.need [[] = byts (decL encByte []), List.length (decL encByte []) = 0]
              (bif Fr.G.closed (Fr.IS.g (IX.s (IX.mk (IX.s y0) true (IX.bo y0) (IX.bb y0)))) then
                T.done
                  (Ret.mk (V.dsl (List.length (Fr.IS.out (IX.s (IX.mk (IX.s y0) true (IX.bo y0) (IX.bb y0))))) false (encs encStr (Fr.IS.out (IX.s (IX.mk (IX.s y0) true (IX.bo y0) (IX.bb y0))))))
                    [some ([V.str [], V.int IntKind.i64 (0 : Int), V.bool false, V.bool false, V.bool true], 29)] [0])
              else
                T.done
                  (Ret.mk (V.dsl (List.length (Fr.IS.out (IX.s (IX.mk (IX.s y0) true (IX.bo y0) (IX.bb y0))))) false (encs encStr (Fr.IS.out (IX.s (IX.mk (IX.s y0) true (IX.bo y0) (IX.bb y0))))))
                    [some
                        ([V.str (decL encByte []), V.int IntKind.i64 (Fr.G.depth (Fr.IS.g (IX.s (IX.mk (IX.s y0) true (IX.bo y0) (IX.bb y0))))),
                            V.bool (Fr.G.quote (Fr.IS.g (IX.s (IX.mk (IX.s y0) true (IX.bo y0) (IX.bb y0))))), V.bool (Fr.G.skip (Fr.IS.g (IX.s (IX.mk (IX.s y0) true (IX.bo y0) (IX.bb y0))))),
                            V.bool (Fr.G.closed (Fr.IS.g (IX.s (IX.mk (IX.s y0) true (IX.bo y0) (IX.bb y0)))))],
                          29)]
                    [0])))
        else
          T.need
            [SoundC (Env.P EIfd) 1 (blk Try.prog fIFeed 0)
                (St.mk
                  (mkTm 86
                    [(0, V.ptr 0 0), (1, V.str t), (5, V.sl 1 0 0 true), (6, V.sl 2 0 (List.length buf) false),
                      (7, V.int IntKind.i64 (0 : Int))])
                  [some
                      ([V.str buf, V.int IntKind.i64 (Fr.G.depth (Fr.G.mk (Fr.G.depth g) (Fr.G.quote g) (Fr.G.skip g) (Fr.G.closed g))),
                          V.bool (Fr.G.quote (Fr.G.mk (Fr.G.depth g) (Fr.G.quote g) (Fr.G.skip g) (Fr.G.closed g))), V.bool (Fr.G.skip (Fr.G.mk (Fr.G.depth g) (Fr.G.quote g) (Fr.G.skip g) (Fr.G.closed g))),
                          V.bool (Fr.G.closed (Fr.G.mk (Fr.G.depth g) (Fr.G.quote g) (Fr.G.skip g) (Fr.G.closed g)))],
                        29),
                    some ([V.sld []], 9), some ([V.sld (encs encByte buf)], 5)]
                  [0])
                (Ex.exit 0)
                (St.mk
                  (mkTm 86
                    [(0, V.ptr 0 0), (1, V.str t),
                      (5, V.sl 1 0 (List.length (Fr.IS.out (IX.s (IX.mk (IX.s y0) false (IX.bo y0) (IX.bb y0))))) (IX.bo (IX.mk (IX.s y0) false (IX.bo y0) (IX.bb y0)))),
                      (6, V.sl 2 0 (List.length (Fr.IS.buf (IX.s (IX.mk (IX.s y0) false (IX.bo y0) (IX.bb y0))))) (IX.bb (IX.mk (IX.s y0) false (IX.bo y0) (IX.bb y0))))])
                  [some
                      ([V.str buf, V.int IntKind.i64 (Fr.G.depth (Fr.IS.g (IX.s (IX.mk (IX.s y0) false (IX.bo y0) (IX.bb y0))))), V.bool (Fr.G.quote (Fr.IS.g (IX.s (IX.mk (IX.s y0) false (IX.bo y0) (IX.bb y0))))),
                          V.bool (Fr.G.skip (Fr.IS.g (IX.s (IX.mk (IX.s y0) false (IX.bo y0) (IX.bb y0))))), V.bool (Fr.G.closed (Fr.IS.g (IX.s (IX.mk (IX.s y0) false (IX.bo y0) (IX.bb y0)))))],
                        29),
                    some ([V.sld (encs encStr (Fr.IS.out (IX.s (IX.mk (IX.s y0) false (IX.bo y0) (IX.bb y0)))))], 9),
                    some ([V.sld (encs encByte (Fr.IS.buf (IX.s (IX.mk (IX.s y0) false (IX.bo y0) (IX.bb y0)))))], 5)]
                  [0])]
            (T.need
              [encs encByte (Fr.IS.buf (IX.s (IX.mk (IX.s y0) false (IX.bo y0) (IX.bb y0)))) = byts (decL encByte (encs encByte (Fr.IS.buf (IX.s (IX.mk (IX.s y0) false (IX.bo y0) (IX.bb y0)))))), 0 = 0,
                List.length (decL encByte (encs encByte (Fr.IS.buf (IX.s (IX.mk (IX.s y0) false (IX.bo y0) (IX.bb y0))))) ++ []) = List.length (Fr.IS.buf (IX.s (IX.mk (IX.s y0) false (IX.bo y0) (IX.bb y0))))]
              (bif Fr.G.closed (Fr.IS.g (IX.s (IX.mk (IX.s y0) false (IX.bo y0) (IX.bb y0)))) then
                T.done
                  (Ret.mk (V.dsl (List.length (Fr.IS.out (IX.s (IX.mk (IX.s y0) false (IX.bo y0) (IX.bb y0))))) false (encs encStr (Fr.IS.out (IX.s (IX.mk (IX.s y0) false (IX.bo y0) (IX.bb y0))))))
                    [some ([V.str [], V.int IntKind.i64 (0 : Int), V.bool false, V.bool false, V.bool true], 29)] [0])
              else
                T.done
                  (Ret.mk (V.dsl (List.length (Fr.IS.out (IX.s (IX.mk (IX.s y0) false (IX.bo y0) (IX.bb y0))))) false (encs encStr (Fr.IS.out (IX.s (IX.mk (IX.s y0) false (IX.bo y0) (IX.bb y0))))))
                    [some
                        ([V.str (decL encByte (encs encByte (Fr.IS.buf (IX.s (IX.mk (IX.s y0) false (IX.bo y0) (IX.bb y0))))) ++ []),
                            V.int IntKind.i64 (Fr.G.depth (Fr.IS.g (IX.s (IX.mk (IX.s y0) false (IX.bo y0) (IX.bb y0))))), V.bool (Fr.G.quote (Fr.IS.g (IX.s (IX.mk (IX.s y0) false (IX.bo y0) (IX.bb y0))))),
                            V.bool (Fr.G.skip (Fr.IS.g (IX.s (IX.mk (IX.s y0) false (IX.bo y0) (IX.bb y0))))), V.bool (Fr.G.closed (Fr.IS.g (IX.s (IX.mk (IX.s y0) false (IX.bo y0) (IX.bb y0)))))],
                          29)]
                    [0]))))) := (T.force_eq _).symm.trans (by kernel_rfl)

def gF (f : Fr.F) : Option Blk := gB f.buf ⟨f.depth, f.quote, f.skip, f.closed⟩
theorem IX.fold_nb (t : List UInt8) (x : IX) (h : x.nb = true → x.s.buf = []) : (t.foldl IX.step x).nb = true → (t.foldl IX.step x).s.buf = [] := by
  induction t generalizing x with
  | nil => exact h
  | cons b t ih => rw [List.foldl_cons]; exact ih _ (x.step_nb b h)
theorem byts_nil : ([] : List V) = byts (decL encByte []) := by
  rw [show decL encByte [] = [] from layByte.decL []]; rfl
/-- The program's feed. -/
theorem ifeed_ok (f : Fr.F) (hf : f.ok) (hb : f.buf.length ≤ 100000) (t : List UInt8) (ht : t.length ≤ 1048576) : FnOK Try.prog fIFeed [.ptr 0 0, .str t] [gF f] ⟨sls encStr (Fr.iFeed f t).out, [gF (Fr.iFeed f t).done], [0]⟩ := by
  generalize hx : t.foldl IX.step ⟨⟨⟨f.depth, f.quote, f.skip, f.closed⟩, f.buf, []⟩, false, true, false⟩ = x
  have h0 := ifeed_loop f.buf t ht t.length 0 ⟨⟨⟨f.depth, f.quote, f.skip, f.closed⟩, f.buf, []⟩, false, true, false⟩ hf (by intro h; cases h) (by omega) (by simp)
  have hnb := IX.fold_nb t ⟨⟨⟨f.depth, f.quote, f.skip, f.closed⟩, f.buf, []⟩, false, true, false⟩ (by intro h; cases h)
  rw [List.drop_zero, hx] at h0
  rw [hx] at hnb
  have hs : Fr.iFeed f t = x.s := by rw [← hx, IX.fold_s]; rfl
  have hlo := layByte.length x.s.buf
  rw [hs]
  refine fnOK_TL (E := EIfd) follows named (ifdT f.buf _ t) (by simp) ?_
  simp only [WP_cond, T.WP, All, decide_eq_true_eq, decide_eq_false_iff_not, and_true, beq_iff_eq, beq_eq_false_iff_ne, ne_eq]
  refine ⟨by omega, ?_⟩
  rintro y rfl
  simp only [hx]
  obtain ⟨⟨⟨d, q, k, c⟩, buf, out⟩, nb, bo, bb⟩ := x
  simp only at hnb hlo ⊢
  refine ⟨by rw [byts_encs], fun hy => ?_, fun hy => ?_⟩
  · subst hy
    have := hnb rfl
    subst this
    refine ⟨.loopTo h0, ⟨byts_nil, by rw [show decL encByte [] = [] from layByte.decL []]; rfl⟩, fun hc => ?_, fun hc => ?_⟩
    · subst hc; exact ⟨rfl, rfl, by simp⟩
    · subst hc
      rw [show decL encByte [] = [] from layByte.decL []]
      exact ⟨rfl, rfl, by simp⟩
  · subst hy
    refine ⟨.loopTo h0, ⟨by rw [layByte.decL, byts_encs], trivial, by rw [layByte.decL, List.append_nil]⟩, fun hc => ?_, fun hc => ?_⟩
    · subst hc; exact ⟨rfl, rfl, by simp⟩
    · subst hc
      rw [layByte.decL, List.append_nil]
      exact ⟨rfl, rfl, by simp⟩

end Go.Proofs.Ytopebociobgmhaa
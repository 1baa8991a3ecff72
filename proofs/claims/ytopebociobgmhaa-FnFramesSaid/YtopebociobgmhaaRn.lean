/-
  The program's framer: a byte within a text.
-/
import Derived.Test.YtopebociobgmhaaRm
namespace Go.Proofs.Ytopebociobgmhaa
open Go.RowKit

abbrev fInText : Nat := 36
abbrev fIFeed : Nat := 29
/-- The framer's block: its text stands aside. -/
def gB (buf : List UInt8) (g : Fr.G) : Option Blk := some ([.str buf, .int .i64 g.depth, .bool g.quote, .bool g.skip, .bool g.closed], tF)

set_option maxRecDepth 100000 in
theorem inTextT (buf : List UInt8) (g : Fr.G) (n : Int) (long : Bool) : fnT E0 0 fInText [.ptr 0 0, .int .u8 n, .bool long] [gB buf g] =
  bif long then T.done (Ret.mk (V.bool false) [some ([V.str buf, V.int IntKind.i64 (Fr.G.depth g), V.bool (Fr.G.quote g), V.bool (Fr.G.skip g), V.bool true], 29)] [0])
  else
    bif Fr.G.skip g then
      bif !Fr.G.closed g then T.done (Ret.mk (V.bool (Fr.G.depth g == (0 : Int))) [some ([V.str buf, V.int IntKind.i64 (Fr.G.depth g), V.bool (Fr.G.quote g), V.bool false, V.bool (Fr.G.closed g)], 29)] [0])
      else T.done (Ret.mk (V.bool false) [some ([V.str buf, V.int IntKind.i64 (Fr.G.depth g), V.bool (Fr.G.quote g), V.bool false, V.bool (Fr.G.closed g)], 29)] [0])
    else
      bif Fr.G.quote g then
        bif !Fr.G.closed g then
          T.done (Ret.mk (V.bool (Fr.G.depth g == (0 : Int))) [some ([V.str buf, V.int IntKind.i64 (Fr.G.depth g), V.bool (n != (34 : Int)), V.bool (n == (92 : Int)), V.bool (Fr.G.closed g)], 29)] [0])
        else T.done (Ret.mk (V.bool false) [some ([V.str buf, V.int IntKind.i64 (Fr.G.depth g), V.bool (n != (34 : Int)), V.bool (n == (92 : Int)), V.bool (Fr.G.closed g)], 29)] [0])
      else
        bif n == (34 : Int) then
          bif !Fr.G.closed g then
            T.done (Ret.mk (V.bool (Fr.G.depth g == (0 : Int))) [some ([V.str buf, V.int IntKind.i64 (Fr.G.depth g), V.bool true, V.bool (Fr.G.skip g), V.bool (Fr.G.closed g)], 29)] [0])
          else T.done (Ret.mk (V.bool false) [some ([V.str buf, V.int IntKind.i64 (Fr.G.depth g), V.bool true, V.bool (Fr.G.skip g), V.bool (Fr.G.closed g)], 29)] [0])
        else
          bif n == (123 : Int) then
            bif !decide (IntKind.wrap IntKind.i64 (Fr.G.depth g + (1 : Int)) > (12 : Int)) then
              T.done
                (Ret.mk (V.bool (IntKind.wrap IntKind.i64 (Fr.G.depth g + (1 : Int)) == (0 : Int)))
                  [some
                      ([V.str buf, V.int IntKind.i64 (IntKind.wrap IntKind.i64 (Fr.G.depth g + (1 : Int))), V.bool (Fr.G.quote g), V.bool (Fr.G.skip g),
                          V.bool (decide (IntKind.wrap IntKind.i64 (Fr.G.depth g + (1 : Int)) > (12 : Int)))],
                        29)]
                  [0])
            else
              T.done
                (Ret.mk (V.bool false)
                  [some
                      ([V.str buf, V.int IntKind.i64 (IntKind.wrap IntKind.i64 (Fr.G.depth g + (1 : Int))), V.bool (Fr.G.quote g), V.bool (Fr.G.skip g),
                          V.bool (decide (IntKind.wrap IntKind.i64 (Fr.G.depth g + (1 : Int)) > (12 : Int)))],
                        29)]
                  [0])
          else
            bif n == (91 : Int) then
              bif !decide (IntKind.wrap IntKind.i64 (Fr.G.depth g + (1 : Int)) > (12 : Int)) then
                T.done
                  (Ret.mk (V.bool (IntKind.wrap IntKind.i64 (Fr.G.depth g + (1 : Int)) == (0 : Int)))
                    [some
                        ([V.str buf, V.int IntKind.i64 (IntKind.wrap IntKind.i64 (Fr.G.depth g + (1 : Int))), V.bool (Fr.G.quote g), V.bool (Fr.G.skip g),
                            V.bool (decide (IntKind.wrap IntKind.i64 (Fr.G.depth g + (1 : Int)) > (12 : Int)))],
                          29)]
                    [0])
              else
                T.done
                  (Ret.mk (V.bool false)
                    [some
                        ([V.str buf, V.int IntKind.i64 (IntKind.wrap IntKind.i64 (Fr.G.depth g + (1 : Int))), V.bool (Fr.G.quote g), V.bool (Fr.G.skip g),
                            V.bool (decide (IntKind.wrap IntKind.i64 (Fr.G.depth g + (1 : Int)) > (12 : Int)))],
                          29)]
                    [0])
            else
              bif n == (125 : Int) then
                bif !Fr.G.closed g then
                  T.done
                    (Ret.mk (V.bool (IntKind.wrap IntKind.i64 (Fr.G.depth g - (1 : Int)) == (0 : Int)))
                      [some ([V.str buf, V.int IntKind.i64 (IntKind.wrap IntKind.i64 (Fr.G.depth g - (1 : Int))), V.bool (Fr.G.quote g), V.bool (Fr.G.skip g), V.bool (Fr.G.closed g)], 29)] [0])
                else
                  T.done
                    (Ret.mk (V.bool false) [some ([V.str buf, V.int IntKind.i64 (IntKind.wrap IntKind.i64 (Fr.G.depth g - (1 : Int))), V.bool (Fr.G.quote g), V.bool (Fr.G.skip g), V.bool (Fr.G.closed g)], 29)]
                      [0])
              else
                bif n == (93 : Int) then
                  bif !Fr.G.closed g then
                    T.done
                      (Ret.mk (V.bool (IntKind.wrap IntKind.i64 (Fr.G.depth g - (1 : Int)) == (0 : Int)))
                        [some ([V.str buf, V.int IntKind.i64 (IntKind.wrap IntKind.i64 (Fr.G.depth g - (1 : Int))), V.bool (Fr.G.quote g), V.bool (Fr.G.skip g), V.bool (Fr.G.closed g)], 29)] [0])
                  else
                    T.done
                      (Ret.mk (V.bool false) [some ([V.str buf, V.int IntKind.i64 (IntKind.wrap IntKind.i64 (Fr.G.depth g - (1 : Int))), V.bool (Fr.G.quote g), V.bool (Fr.G.skip g), V.bool (Fr.G.closed g)], 29)]
                        [0])
                else
                  bif !Fr.G.closed g then
                    T.done (Ret.mk (V.bool (Fr.G.depth g == (0 : Int))) [some ([V.str buf, V.int IntKind.i64 (Fr.G.depth g), V.bool (Fr.G.quote g), V.bool (Fr.G.skip g), V.bool (Fr.G.closed g)], 29)] [])
                  else T.done (Ret.mk (V.bool false) [some ([V.str buf, V.int IntKind.i64 (Fr.G.depth g), V.bool (Fr.G.quote g), V.bool (Fr.G.skip g), V.bool (Fr.G.closed g)], 29)] []) := by kernel_rfl

theorem inText_ok (buf : List UInt8) (g : Fr.G) (n : Int) (long : Bool) (hn : 0 ≤ n ∧ n < 256) (hd : -1000 ≤ g.depth ∧ g.depth ≤ 1000) : FnOK Try.prog fInText [.ptr 0 0, .int .u8 n, .bool long] [gB buf g] ⟨.bool (Fr.inText g n long).2, [gB buf (Fr.inText g n long).1], [0]⟩ := by
  refine fnOK_TL (E := E0) follows named (inTextT buf g n long) (by simp) ?_
  simp only [WP_cond, T.WP, All, decide_eq_true_eq, decide_eq_false_iff_not, and_true, beq_iff_eq, beq_eq_false_iff_ne, ne_eq]
  simp (disch := omega) only [wrap_id]
  unfold Fr.inText
  obtain ⟨depth, quote, skip, closed⟩ := g
  simp only at hd ⊢
  simp only [gt_iff_lt, bne_iff_ne, ne_eq, bne_eq_false_iff_eq, Decidable.not_not]
  repeat' with_reducible first
    | intro h
    | apply And.intro
  all_goals first
    | omega
    | (simp [*, RetLe, gB]; done)
    | (simp [*, RetLe, gB]; omega)
    | (exfalso; simp_all; done)

end Go.Proofs.Ytopebociobgmhaa

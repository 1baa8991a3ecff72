/-
  The program's print gives what the reference's gives.
  Right values can be printed by the program, and are short.
  The program's framer: a byte within a text.
  The program's framer: a text is fed.
  The program's framer: a round from no beginning; all rounds of a text.
  The program's feed at a framer that can come up; texts and lists in bounds.
  The program's FeedAll.
  The law's helpers: a number, two lists of texts.
  The source of choices that some bytes make.
  The law FnTexts.
  From a contract to the given statement: arguments that are slices of bytes.
-/
import Derived.Test.YtjgancippgpdhaaGreatDoorTxAi
import Derived.ProofKit
import Derived.ChangeSlices
namespace Go.Proofs.YtjgancippgpdhaaGreatDoor
open Go.RowKit
set_option maxRecDepth 100000

abbrev fIPrint : Nat := 26
abbrev fIPrintJson : Nat := 7
abbrev fJoin : Nat := 51
abbrev fItoa : Nat := 50
noncomputable def resIP : ResT := fun f vs hp => match vs, hp with
  | [.agg [.int _ k, .int _ n, .str t, .dsl _ _ ks, .dsl _ _ its]], [] => bif Nat.beq f fIPrint then some ⟨pj (jOf k n t ks its), fun y => ⟨.str y, [], []⟩⟩ else none
  | [.str t], [] => bif Nat.beq f fQuoted then some ⟨quo t, fun y => ⟨.str y, [], []⟩⟩ else none
  | [.int _ n], [] => bif Nat.beq f fItoa then some ⟨dg n, fun y => ⟨.str y, [], []⟩⟩ else none
  | [.sl 0 0 _ _, .str _], [some ([.sld cs], _)] => bif Nat.beq f fJoin then some ⟨Lib.join (decL encStr cs) [44], fun y => ⟨.str y, [none], [0]⟩⟩ else none
  | _, _ => none
noncomputable def EIP : Env := { P := Tryz.prog, vw := vwA, res := resIP }
abbrev tStr : Nat := 9
def stIP (j : J) (W : List (List UInt8)) (i : Int) (b : Bool) : St := ⟨mkTm 66 [(1, .ptr 0 0), (3, .sl 1 0 W.length b), (9, sls encJ j.items), (10, .int .i64 j.items.length), (11, .int .i64 i)], [some (vwJ j, tJ), some ([.sld (encs encStr W)], tStr)], []⟩
def nfIP : Ex → Kp := fun ex => match ex with
  | .normal => { keep := [1, 3, 9, 10, 11] }
  | _ => { keep := [1, 3] }
--FOLD vwJ
set_option maxRecDepth 100000 in
theorem iprT (j : J) (W : List (List UInt8)) (i : Int) (b : Bool) : bodyT EIP 0 nfIP (lp Tryz.prog fIPrint 0) (stIP j W i b) =
  bif decide (i < (↑(List.length (J.items j)) : Int)) then
    T.need
      [(0 : Int) ≤ i ∧ i < (↑(List.length (J.items j)) : Int),
        List.take 5 (List.drop (Int.toNat i * 5) (encs encJ (J.items j))) = vwJ (List.getD (decL encJ (encs encJ (J.items j))) (Int.toNat i) (J.mk (0 : Int) (0 : Int) [] [] []))]
      (T.bind
        (pj
          (jOf (J.kind (List.getD (decL encJ (encs encJ (J.items j))) (Int.toNat i) (J.mk (0 : Int) (0 : Int) [] [] [])))
            (J.n (List.getD (decL encJ (encs encJ (J.items j))) (Int.toNat i) (J.mk (0 : Int) (0 : Int) [] [] []))) (J.t (List.getD (decL encJ (encs encJ (J.items j))) (Int.toNat i) (J.mk (0 : Int) (0 : Int) [] [] [])))
            (encs encStr (J.keys (List.getD (decL encJ (encs encJ (J.items j))) (Int.toNat i) (J.mk (0 : Int) (0 : Int) [] [] []))))
            (encs encJ (J.items (List.getD (decL encJ (encs encJ (J.items j))) (Int.toNat i) (J.mk (0 : Int) (0 : Int) [] [] []))))))
        fun y0 =>
        T.need [FnOK (Env.P EIP) 26 [V.agg (vwJ (List.getD (decL encJ (encs encJ (J.items j))) (Int.toNat i) (J.mk (0 : Int) (0 : Int) [] [] [])))] [] (Ret.mk (V.str y0) [] [])]
          (bif J.kind j == (5 : Int) then
            T.need
              [(0 : Int) ≤ i ∧ i < (↑(List.length (J.keys j)) : Int),
                List.take 1 (List.drop (Int.toNat i * 1) (encs encStr (J.keys j))) = [V.str (List.getD (decL encStr (encs encStr (J.keys j))) (Int.toNat i) [])]]
              (T.bind (quo (List.getD (decL encStr (encs encStr (J.keys j))) (Int.toNat i) [])) fun y1 =>
                T.need [FnOK (Env.P EIP) 49 [V.str (List.getD (decL encStr (encs encStr (J.keys j))) (Int.toNat i) [])] [] (Ret.mk (V.str y1) [] [])]
                  (T.need [List.length y1 + 1 ≤ 4611686018427387904]
                    (T.need [List.length (y1 ++ [(58 : UInt8)]) + List.length y0 ≤ 4611686018427387904]
                      (T.need
                        [0 = 0, List.length (encs encStr W) = List.length W * 1, List.length W + 1 ≤ 9223372036854775807,
                          (List.length W + 1) * 16 ≤ 140737488355328]
                        (T.done
                          (Ex.normal,
                            St.mk
                              (mkTm 66
                                [(1, V.ptr 0 0), (3, V.sl 1 0 (List.length W + 1) false), (9, V.dsl (List.length (J.items j)) false (encs encJ (J.items j))),
                                  (10, V.int IntKind.i64 (↑(List.length (J.items j)) : Int)), (11, V.int IntKind.i64 (IntKind.wrap IntKind.i64 (i + (1 : Int))))])
                              [some (vwJ j, 28), some ([V.sld (encs encStr W ++ [V.str (y1 ++ [(58 : UInt8)] ++ y0)])], 9)] []))))))
          else
            T.need
              [0 = 0, List.length (encs encStr W) = List.length W * 1, List.length W + 1 ≤ 9223372036854775807, (List.length W + 1) * 16 ≤ 140737488355328]
              (T.done
                (Ex.normal,
                  St.mk
                    (mkTm 66
                      [(1, V.ptr 0 0), (3, V.sl 1 0 (List.length W + 1) false), (9, V.dsl (List.length (J.items j)) false (encs encJ (J.items j))),
                        (10, V.int IntKind.i64 (↑(List.length (J.items j)) : Int)), (11, V.int IntKind.i64 (IntKind.wrap IntKind.i64 (i + (1 : Int))))])
                    [some (vwJ j, 28), some ([V.sld (encs encStr W ++ [V.str y0])], 9)] []))))
  else
    T.done
      (Ex.exit 0, St.mk (mkTm 66 [(1, V.ptr 0 0), (3, V.sl 1 0 (List.length W) b)]) [some (vwJ j, 28), some ([V.sld (encs encStr W)], 9)] []) := by kernel_rfl
def stIPx (j : J) (W : List (List UInt8)) (b : Bool) : St := ⟨mkTm 66 [(1, .ptr 0 0), (3, .sl 1 0 W.length b)], [some (vwJ j, tJ), some ([.sld (encs encStr W)], tStr)], []⟩

theorem quoted_ok' (t : List UInt8) (ht : t.length ≤ 500000) : FnOK Tryz.prog fQuoted [.str t] [] ⟨.str (quo t), [], []⟩ := quoted_ok t ht
/-- What the loop asks of the value. -/
structure IPrOK (j : J) : Prop where
  items : ∀ x ∈ j.items, FnOK Tryz.prog fIPrint [.agg (vwJ x)] [] ⟨.str (pj x), [], []⟩ ∧ (pj x).length ≤ 1073741824
  keys : ∀ s ∈ j.keys, s.length ≤ 1000
  len : j.items.length ≤ 1048576
  obj : j.kind = 5 → j.items.length ≤ j.keys.length
theorem ipr_loop (j : J) (hj : IPrOK j) : ∀ (m : Nat) (W : List (List UInt8)) (i : Nat) (b : Bool), i + m = j.items.length → W.length = i → (1 ≤ i → b = false) →
    LoopTo Tryz.prog 0 (lp Tryz.prog fIPrint 0) (stIP j W i b) (.exit 0) (stIPx j (W ++ prts (j.kind == 5) (j.keys.drop i) (j.items.drop i)) (b && j.items.length == 0))
  | 0, W, i, b, h1, h2, h3 => by
    refine loopT (E := EIP) follows named (iprT j W i b) ?_
    obtain rfl : i = j.items.length := h1
    have hlen := hj.len
    simp only [WP_cond, T.WP, All, decide_eq_true_eq, decide_eq_false_iff_not, and_true, beq_iff_eq, beq_eq_false_iff_ne, ne_eq]
    refine ⟨fun h => by omega, fun _ => ⟨rfl, ?_⟩⟩
    have hb : (b && j.items.length == 0) = b := by
      rcases Nat.eq_zero_or_pos j.items.length with h | h
      · simp [h]
      · rw [h3 h]; rfl
    rw [List.drop_length, hb]
    simp [prts, stIPx]
  | m + 1, W, i, b, h1, h2, h3 => by
    refine loopT (E := EIP) follows named (iprT j W i b) ?_
    have hat := vwJ_at j.items i (by omega)
    have hlen := hj.len
    simp only [WP_cond, T.WP, All, decide_eq_true_eq, decide_eq_false_iff_not, and_true, beq_iff_eq, beq_eq_false_iff_ne, ne_eq, Int.toNat_natCast, layJ.decL, layStr.decL, wrap_succ (show i < 9223372036854775807 by omega), show J.mk 0 0 [] [] [] = J.zero from rfl]
    have hx : j.items.getD i J.zero ∈ j.items := by rw [List.getD_eq_getElem?_getD, List.getElem?_eq_getElem (by omega)]; exact List.getElem_mem _
    have hi := hj.items _ hx
    have ih := ipr_loop j hj m (W ++ [prt (j.kind == 5) (j.keys.getD i []) (j.items.getD i J.zero)]) (i + 1) false (by omega) (by simp [h2]) (fun _ => rfl)
    rw [List.append_assoc, List.singleton_append, ← prts_step _ i _ _ (by omega)] at ih
    have e : stIPx j (W ++ prts (j.kind == 5) (List.drop i j.keys) (List.drop i j.items)) (b && j.items.length == 0) = stIPx j (W ++ prts (j.kind == 5) (List.drop i j.keys) (List.drop i j.items)) (false && j.items.length == 0) := by
      rw [show (j.items.length == 0) = false by rw [beq_eq_false_iff_ne]; omega]; simp
    rw [e]
    refine ⟨fun _ => ⟨⟨by omega, hat⟩, ?_⟩, fun h => by omega⟩
    rintro y rfl
    rw [jOf_eta]
    refine ⟨hi.1, fun h5 => ?_, fun h5 => ?_⟩
    · have hk : i < j.keys.length := by have := hj.obj h5; omega
      have hkl := hj.keys (j.keys.getD i []) (by rw [List.getD_eq_getElem?_getD, List.getElem?_eq_getElem hk]; exact List.getElem_mem _)
      have hq := quo_len (j.keys.getD i [])
      have hat2 := layStr.at j.keys [] i 1 hk rfl
      refine ⟨⟨by omega, hat2⟩, ?_⟩
      rintro z rfl
      refine ⟨quoted_ok' _ (by omega), by omega, by have := hi.2; simp only [List.length_append, List.length_singleton]; omega, ⟨trivial, by rw [layStr.length], by omega, by omega⟩, ?_⟩
      simp only [prt, h5, beq_self_eq_true, if_true, stIP, encs_snoc, encStr, List.length_append, List.length_singleton] at ih ⊢
      exact ih
    · refine ⟨⟨trivial, by rw [layStr.length], by omega, by omega⟩, ?_⟩
      simp only [prt, show (j.kind == 5) = false by rw [beq_eq_false_iff_ne]; exact h5, Bool.false_eq_true, if_false, List.nil_append, stIP, encs_snoc, encStr, List.length_append, List.length_singleton] at ih ⊢
      exact ih
noncomputable def lsIPr (j : J) : Nat → St → Option LRes := fun id _ => match id with
  | 0 => some ⟨(prts (j.kind == 5) j.keys j.items, j.items.length == 0), fun y => .one { keep := [1, 3, 9, 10, 11] } (stIP j [] 0 true) (.exit 0) (stIPx j y.1 y.2)⟩
  | _ => none
noncomputable def EIPj (j : J) : Env := { P := Tryz.prog, vw := vwA, res := resIP, ls := lsIPr j, vs := [(12, 4, .str ([[102, 97, 108, 115, 101], [116, 114, 117, 101]].getD j.n.toNat []))] }
set_option maxRecDepth 100000 in
theorem iprintT (j : J) : fnT (EIPj j) 0 fIPrint [.agg (vwJ j)] [] =
  T.bind (prts (J.kind j == (5 : Int)) (J.keys j) (J.items j), List.length (J.items j) == 0) fun y0 =>
    T.need
      [St.mk
            (mkTm 66
              [(1, V.ptr 0 0), (3, V.sl 1 0 0 true), (9, V.dsl (List.length (J.items j)) false (encs encJ (J.items j))),
                (10, V.int IntKind.i64 (↑(List.length (J.items j)) : Int)), (11, V.int IntKind.i64 (0 : Int))])
            [some (vwJ j, 28), some ([V.sld []], 9)] [] =
          St.mk
            (mkTm 66
              [(1, V.ptr 0 0), (3, V.sl 1 0 0 true), (9, V.dsl (List.length (J.items j)) false (encs encJ (J.items j))),
                (10, V.int IntKind.i64 (↑(List.length (J.items j)) : Int)), (11, V.int IntKind.i64 (0 : Int))])
            [some (vwJ j, 28), some ([V.sld []], 9)] [],
        SoundC (Env.P (EIPj j)) 0 (blk Tryz.prog fIPrint 0)
          (St.mk
            (mkTm 66
              [(1, V.ptr 0 0), (3, V.sl 1 0 0 true), (9, V.dsl (List.length (J.items j)) false (encs encJ (J.items j))),
                (10, V.int IntKind.i64 (↑(List.length (J.items j)) : Int)), (11, V.int IntKind.i64 (0 : Int))])
            [some (vwJ j, 28), some ([V.sld []], 9)] [])
          (Ex.exit 0)
          (St.mk (mkTm 66 [(1, V.ptr 0 0), (3, V.sl 1 0 (List.length (Prod.fst y0)) (Prod.snd y0))])
            [some (vwJ j, 28), some ([V.sld (encs encStr (Prod.fst y0))], 9)] [])]
      (bif J.kind j == (1 : Int) then
        T.need [(0 : Int) ≤ J.n j ∧ J.n j < (2 : Int)]
          (T.need
            [[V.str [102, 97, 108, 115, 101], V.str [116, 114, 117, 101]][0 + Int.toNat (J.n j) * 1]? =
                some (V.str (List.getD [[(102 : UInt8), (97 : UInt8), (108 : UInt8), (115 : UInt8), (101 : UInt8)], [(116 : UInt8), (114 : UInt8), (117 : UInt8), (101 : UInt8)]] (Int.toNat (J.n j)) []))]
            (T.done (Ret.mk (V.str (List.getD [[(102 : UInt8), (97 : UInt8), (108 : UInt8), (115 : UInt8), (101 : UInt8)], [(116 : UInt8), (114 : UInt8), (117 : UInt8), (101 : UInt8)]] (Int.toNat (J.n j)) [])) [] [])))
      else
        bif J.kind j == (2 : Int) then T.bind (dg (J.n j)) fun y1 => T.need [FnOK (Env.P (EIPj j)) 50 [V.int IntKind.i64 (J.n j)] [] (Ret.mk (V.str y1) [] [])] (T.done (Ret.mk (V.str y1) [] []))
        else
          bif J.kind j == (3 : Int) then T.bind (quo (J.t j)) fun y2 => T.need [FnOK (Env.P (EIPj j)) 49 [V.str (J.t j)] [] (Ret.mk (V.str y2) [] [])] (T.done (Ret.mk (V.str y2) [] []))
          else
            bif J.kind j == (4 : Int) then
              T.bind (Lib.join (decL encStr (encs encStr (Prod.fst y0))) [(44 : UInt8)]) fun y3 =>
                T.need
                  [FnOK (Env.P (EIPj j)) 51 [V.sl 0 0 (List.length (Prod.fst y0)) (Prod.snd y0), V.str [44]] [some ([V.sld (encs encStr (Prod.fst y0))], 9)]
                      (Ret.mk (V.str y3) [none] [0])]
                  (T.need [1 + List.length y3 ≤ 4611686018427387904]
                    (T.need [List.length ([(91 : UInt8)] ++ y3) + 1 ≤ 4611686018427387904] (T.done (Ret.mk (V.str ([(91 : UInt8)] ++ y3 ++ [(93 : UInt8)])) [] []))))
            else
              bif J.kind j == (5 : Int) then
                T.bind (Lib.join (decL encStr (encs encStr (Prod.fst y0))) [(44 : UInt8)]) fun y4 =>
                  T.need
                    [FnOK (Env.P (EIPj j)) 51 [V.sl 0 0 (List.length (Prod.fst y0)) (Prod.snd y0), V.str [44]] [some ([V.sld (encs encStr (Prod.fst y0))], 9)]
                        (Ret.mk (V.str y4) [none] [0])]
                    (T.need [1 + List.length y4 ≤ 4611686018427387904]
                      (T.need [List.length ([(123 : UInt8)] ++ y4) + 1 ≤ 4611686018427387904] (T.done (Ret.mk (V.str ([(123 : UInt8)] ++ y4 ++ [(125 : UInt8)])) [] []))))
              else T.done (Ret.mk (V.str [110, 117, 108, 108]) [] [])) := (T.force_eq _).symm.trans (by kernel_rfl)
theorem iprint_top (j : J) (h : PrTop j) (hk : 0 ≤ j.kind ∧ j.kind ≤ 5) (ht : j.t.length ≤ 500000) (hj : IPrOK j) (hlen : (pjs (j.kind == 5) true j.keys j.items).length ≤ 140737488355328) : FnOK Tryz.prog fIPrint [.agg (vwJ j)] [] ⟨.str (pj j), [], []⟩ := by
  refine fnOK_TL (E := EIPj j) follows named (iprintT j) (by simp) ?_
  simp only [WP_cond, T.WP, All, and_true, beq_iff_eq, beq_eq_false_iff_ne, ne_eq]
  rintro y rfl
  rw [layStr.decL]
  simp only [join_pjs]
  have h0 := ipr_loop j hj j.items.length [] 0 true (by omega) rfl (fun h => by omega)
  simp only [List.drop_zero, List.nil_append, Bool.true_and] at h0
  have hjoin : FnOK Tryz.prog fJoin [.sl 0 0 (prts (j.kind == 5) j.keys j.items).length (j.items.length == 0), .str [44]] [some ([.sld (encs encStr (prts (j.kind == 5) j.keys j.items))], tStr)] ⟨.str (pjs (j.kind == 5) true j.keys j.items), [none], [0]⟩ := by
    refine FnOK.give (cs := encs encStr (prts (j.kind == 5) j.keys j.items)) (by simp [V.refsL, V.refs]) (by simp [flat]) ?_
    have h1 := join_ok (prts (j.kind == 5) j.keys j.items) [44] (by rw [prts_len]; have := hj.len; omega) (by rw [join_pjs]; exact hlen)
    rw [join_pjs] at h1
    exact h1
  have hp := pj_eq j
  refine ⟨⟨trivial, .loopTo h0⟩, fun h1 => ⟨h.bool h1, ?_, by rw [hp, if_neg (by omega), if_pos h1], rfl, by simp⟩, fun h1 => ⟨fun h2 => ?_, fun h2 => ⟨fun h3 => ?_, fun h3 => ⟨fun h4 => ?_, fun h4 => ⟨fun h5 => ?_, fun h5 => ?_⟩⟩⟩⟩⟩
  · have := h.bool h1
    have h01 : j.n.toNat = 0 ∨ j.n.toNat = 1 := by omega
    rcases h01 with e | e <;> rw [e] <;> rfl
  · rintro y rfl
    refine ⟨?_, by rw [hp, if_neg (by omega), if_neg h1, if_pos h2], rfl, by simp⟩
    have := itoa_ok j.n ⟨by have := h.num; omega, h.num.2⟩
    rw [itoa_dg j.n h.num] at this
    exact this
  · rintro y rfl
    exact ⟨quoted_ok' _ ht, by rw [hp, if_neg (by omega), if_neg h1, if_neg h2, if_pos h3], rfl, by simp⟩
  · rintro y rfl
    refine ⟨hjoin, by omega, by simp only [List.length_append, List.length_singleton]; omega, ?_, rfl, by simp⟩
    rw [hp, if_neg (by omega), if_neg h1, if_neg h2, if_neg h3, if_neg (by omega), if_neg (by omega)]
  · rintro y rfl
    refine ⟨hjoin, by omega, by simp only [List.length_append, List.length_singleton]; omega, ?_, rfl, by simp⟩
    rw [hp, if_neg (by omega), if_neg h1, if_neg h2, if_neg h3, if_pos h5, if_pos h5]
  · refine ⟨?_, rfl, by simp⟩
    rw [hp, if_pos (by omega)]
end Go.Proofs.YtjgancippgpdhaaGreatDoor

namespace Go.Proofs.YtjgancippgpdhaaGreatDoor
open Go.RowKit
set_option maxRecDepth 100000

/-- A right value. -/
inductive RJ : J → Prop where
  | mk {j : J} (h : partJ j = true) (hi : ∀ x ∈ j.items, RJ x) : RJ j
theorem RJ.part {j : J} : RJ j → partJ j = true | .mk h _ => h
theorem RJ.item {j : J} : RJ j → ∀ x ∈ j.items, RJ x | .mk _ h => h
mutual
theorem rightJ_rj : ∀ (j : J) (d room : Int), 0 ≤ room → (rightJ j d room).1 = true → RJ j ∧ (rightJ j d room).2 + jn j = room
  | .mk k n t ks its, d, room, h, ht => by
    rw [rightJ] at ht ⊢
    split at ht
    · cases ht
    · rename_i hc
      rw [if_neg hc]
      simp only [not_or, Bool.not_eq_false] at hc
      have := rightJs_rj its (d + 1) (room - 1) (by omega) ht
      exact ⟨.mk hc.2.2 this.1, by rw [jn]; omega⟩
theorem rightJs_rj : ∀ (L : List J) (d room : Int), 0 ≤ room → (rightJs L d room).1 = true → (∀ x ∈ L, RJ x) ∧ (rightJs L d room).2 + jns L = room
  | [], d, room, h, ht => by rw [rightJs]; simp [jns]
  | j :: js, d, room, h, ht => by
    rw [rightJs] at ht ⊢
    split at ht
    · rename_i hc
      rw [if_pos hc]
      have h0 := rightJ_room j d room h hc
      have h1 := rightJ_rj j d room h hc
      have h2 := rightJs_rj js d _ h0.1 ht
      refine ⟨fun x hx => ?_, by rw [jns]; omega⟩
      rcases List.mem_cons.1 hx with rfl | hx
      · exact h1.1
      · exact h2.1 x hx
    · cases ht
end
theorem okJ_rj {j : J} (h : okJ j = true) : RJ j ∧ jn j ≤ 400 := by
  have h1 := rightJ_rj j 0 400 (by omega) h
  have h2 := rightJ_room j 0 400 (by omega) h
  exact ⟨h1.1, by omega⟩
/-- What is known of a right value's own fields. -/
structure Flds (j : J) : Prop where
  kind : 0 ≤ j.kind ∧ j.kind ≤ 5
  n : -1000000000 ≤ j.n ∧ j.n ≤ 1000000000
  bool : j.kind = 1 → 0 ≤ j.n ∧ j.n < 2
  t : j.t.length ≤ 200
  keys : ∀ s ∈ j.keys, s.length ≤ 200
  obj : j.kind = 5 → j.items.length = j.keys.length
  kl : j.keys.length ≤ j.items.length
theorem areK_mem : ∀ {ks : List (List UInt8)}, areK ks = true → ∀ s ∈ ks, plainT s = true
  | [], _, s, hs => by cases hs
  | [k], h, s, hs => by simp only [List.mem_singleton] at hs; subst hs; exact h
  | k :: k' :: t, h, s, hs => by
    rw [areK, Bool.and_eq_true, Bool.and_eq_true] at h
    rcases List.mem_cons.1 hs with rfl | hs
    · exact h.1.1
    · exact areK_mem h.2 s hs
theorem plainT_len {t : List UInt8} (h : plainT t = true) : t.length ≤ 200 := by
  unfold plainT at h; rw [Bool.and_eq_true, decide_eq_true_eq] at h; exact h.2
theorem part_flds {j : J} (h : partJ j = true) : Flds j := by
  obtain ⟨k, n, t, ks, its⟩ := j
  have hp := @plainT_len t
  have hk := @areK_mem ks
  unfold partJ at h
  by_cases h0 : k = 0
  · subst h0; simp at h; obtain ⟨⟨⟨rfl, rfl⟩, rfl⟩, rfl⟩ := h; constructor <;> simp [J.kind, J.n, J.t, J.keys, J.items]
  by_cases h1 : k = 1
  · subst h1; simp at h; obtain ⟨⟨⟨h, rfl⟩, rfl⟩, rfl⟩ := h; constructor <;> simp [J.kind, J.n, J.t, J.keys, J.items] <;> omega
  by_cases h2 : k = 2
  · subst h2; simp at h; obtain ⟨⟨⟨h, rfl⟩, rfl⟩, rfl⟩ := h; constructor <;> simp [J.kind, J.n, J.t, J.keys, J.items] <;> omega
  by_cases h3 : k = 3
  · subst h3; simp at h; obtain ⟨⟨⟨rfl, h⟩, rfl⟩, rfl⟩ := h; constructor <;> simp [J.kind, J.n, J.t, J.keys, J.items]; exact hp h
  by_cases h4 : k = 4
  · subst h4; simp at h; obtain ⟨⟨rfl, rfl⟩, rfl⟩ := h; constructor <;> simp [J.kind, J.n, J.t, J.keys, J.items]
  by_cases h5 : k = 5
  · subst h5; simp at h; obtain ⟨⟨⟨rfl, rfl⟩, he⟩, h⟩ := h; constructor <;> simp [J.kind, J.n, J.t, J.keys, J.items]
    · exact fun s hs => plainT_len (hk h s hs)
    · omega
    · omega
  · simp [h0, h1, h2, h3, h4, h5] at h
theorem dg_small (n : Int) (_ : -1000000000 ≤ n ∧ n ≤ 1000000000) : (dg n).length ≤ 400 := by
  have := dg_len n; omega
mutual
theorem pj_len : ∀ (j : J), RJ j → (pj j).length + 404 ≤ 900 * jn j
  | .mk k n t ks its, h => by
    have hf := part_flds h.part
    have hs := pjs_len2 (k == 5) its h.item true ks hf.keys
    have ht := quo_len t
    have hd := dg_small n hf.n
    have h1 := hf.t
    have h2 := hf.kind
    simp only [J.t, J.kind] at h1 h2
    rw [pj, jn]
    skip
    have hb : ([[102, 97, 108, 115, 101], [116, 114, 117, 101]].getD n.toNat ([] : List UInt8)).length ≤ 5 := by
      rcases n.toNat with _ | _ | m <;> simp
    have e1 : (if k = 5 then [123] else [91] : List UInt8).length = 1 := by split <;> rfl
    have e2 : (if k = 5 then [125] else [93] : List UInt8).length = 1 := by split <;> rfl
    by_cases c0 : k = 0
    · rw [if_pos c0]; simp only [List.length_cons, List.length_nil]; omega
    by_cases c1 : k = 1
    · rw [if_neg c0, if_pos c1]; omega
    by_cases c2 : k = 2
    · rw [if_neg c0, if_neg c1, if_pos c2]; omega
    by_cases c3 : k = 3
    · rw [if_neg c0, if_neg c1, if_neg c2, if_pos c3]; omega
    · rw [if_neg c0, if_neg c1, if_neg c2, if_neg c3]; simp only [List.length_append, e1, e2]; omega
theorem pjs_len2 : ∀ (o : Bool) (L : List J), (∀ x ∈ L, RJ x) → ∀ (a : Bool) (ks : List (List UInt8)), (∀ s ∈ ks, s.length ≤ 200) → (pjs o a ks L).length ≤ 900 * jns L
  | _, [], _, a, ks, _ => by simp [pjs]
  | o, j :: js, h, a, ks, hk => by
    have h1 := pj_len j (h j (by simp))
    have h2 := pjs_len2 o js (fun x hx => h x (by simp [hx])) false ks.tail (fun s hs => hk s (List.mem_of_mem_tail hs))
    have h3 := quo_len (ks.headD [])
    have h4 : (ks.headD []).length ≤ 200 := by
      cases ks with
      | nil => simp
      | cons k t => exact hk k (by simp)
    rw [pjs, jns]
    simp only [List.length_append]
    have h5 : (if a = true then ([] : List UInt8) else [44]).length ≤ 1 := by split <;> simp
    have h6 : (if o = true then quo (ks.headD []) ++ [58] else []).length ≤ 403 := by split; (simp only [List.length_append, List.length_singleton]; omega); simp
    omega
end
theorem jns_mem {L : List J} : ∀ x ∈ L, jn x ≤ jns L := by
  induction L with
  | nil => simp
  | cons j js ih =>
    intro x hx
    rw [jns]
    rcases List.mem_cons.1 hx with rfl | hx
    · omega
    · have := ih x hx; omega
theorem jns_length : ∀ L : List J, L.length ≤ jns L
  | [] => by simp
  | j :: js => by
    have := jns_length js
    obtain ⟨k, n, t, ks, its⟩ := j
    rw [jns, jn, List.length_cons]; omega
theorem iprint_ok : ∀ (m : Nat) (j : J), jn j ≤ m → m ≤ 1000 → RJ j → FnOK Tryz.prog fIPrint [.agg (vwJ j)] [] ⟨.str (pj j), [], []⟩
  | 0, .mk k n t ks its, hm, _, _ => by rw [jn] at hm; omega
  | m + 1, j, hm, hm2, h => by
    have hf := part_flds h.part
    have hn : jn j = 1 + jns j.items := by obtain ⟨k, n, t, ks, its⟩ := j; rw [jn]; rfl
    have hl := jns_length j.items
    have hs := pjs_len2 (j.kind == 5) j.items h.item true j.keys hf.keys
    refine iprint_top j ⟨hf.bool, by have := hf.n; omega, by have := hf.t; omega⟩ hf.kind (by have := hf.t; omega) ⟨fun x hx => ⟨iprint_ok m x (by have := jns_mem x hx; omega) (by omega) (h.item x hx), ?_⟩, fun s hs => by have := hf.keys s hs; omega, by omega, fun h5 => by have := hf.obj h5; omega⟩ (by omega)
    have := pj_len x (h.item x hx)
    have := jns_mem x hx
    omega
end Go.Proofs.YtjgancippgpdhaaGreatDoor

namespace Go.Proofs.YtjgancippgpdhaaGreatDoor
open Go.RowKit
set_option maxRecDepth 100000

abbrev fInText : Nat := 56
abbrev fIFeed : Nat := 30
/-- The framer's block: its text stands aside. -/
def gB (buf : List UInt8) (g : Fr.G) : Option Blk := some ([.str buf, .int .i64 g.depth, .bool g.quote, .bool g.skip, .bool g.closed], tF)

set_option maxRecDepth 100000 in
theorem inTextT (buf : List UInt8) (g : Fr.G) (n : Int) (long : Bool) : fnT E0 0 fInText [.ptr 0 0, .int .u8 n, .bool long] [gB buf g] =
  bif long then T.done (Ret.mk (V.bool false) [some ([V.str buf, V.int IntKind.i64 (Fr.G.depth g), V.bool (Fr.G.quote g), V.bool (Fr.G.skip g), V.bool true], 31)] [0])
  else
    bif Fr.G.skip g then
      bif !Fr.G.closed g then T.done (Ret.mk (V.bool (Fr.G.depth g == (0 : Int))) [some ([V.str buf, V.int IntKind.i64 (Fr.G.depth g), V.bool (Fr.G.quote g), V.bool false, V.bool (Fr.G.closed g)], 31)] [0])
      else T.done (Ret.mk (V.bool false) [some ([V.str buf, V.int IntKind.i64 (Fr.G.depth g), V.bool (Fr.G.quote g), V.bool false, V.bool (Fr.G.closed g)], 31)] [0])
    else
      bif Fr.G.quote g then
        bif !Fr.G.closed g then
          T.done (Ret.mk (V.bool (Fr.G.depth g == (0 : Int))) [some ([V.str buf, V.int IntKind.i64 (Fr.G.depth g), V.bool (n != (34 : Int)), V.bool (n == (92 : Int)), V.bool (Fr.G.closed g)], 31)] [0])
        else T.done (Ret.mk (V.bool false) [some ([V.str buf, V.int IntKind.i64 (Fr.G.depth g), V.bool (n != (34 : Int)), V.bool (n == (92 : Int)), V.bool (Fr.G.closed g)], 31)] [0])
      else
        bif n == (34 : Int) then
          bif !Fr.G.closed g then
            T.done (Ret.mk (V.bool (Fr.G.depth g == (0 : Int))) [some ([V.str buf, V.int IntKind.i64 (Fr.G.depth g), V.bool true, V.bool (Fr.G.skip g), V.bool (Fr.G.closed g)], 31)] [0])
          else T.done (Ret.mk (V.bool false) [some ([V.str buf, V.int IntKind.i64 (Fr.G.depth g), V.bool true, V.bool (Fr.G.skip g), V.bool (Fr.G.closed g)], 31)] [0])
        else
          bif n == (123 : Int) then
            bif !decide (IntKind.wrap IntKind.i64 (Fr.G.depth g + (1 : Int)) > (12 : Int)) then
              T.done
                (Ret.mk (V.bool (IntKind.wrap IntKind.i64 (Fr.G.depth g + (1 : Int)) == (0 : Int)))
                  [some
                      ([V.str buf, V.int IntKind.i64 (IntKind.wrap IntKind.i64 (Fr.G.depth g + (1 : Int))), V.bool (Fr.G.quote g), V.bool (Fr.G.skip g),
                          V.bool (decide (IntKind.wrap IntKind.i64 (Fr.G.depth g + (1 : Int)) > (12 : Int)))],
                        31)]
                  [0])
            else
              T.done
                (Ret.mk (V.bool false)
                  [some
                      ([V.str buf, V.int IntKind.i64 (IntKind.wrap IntKind.i64 (Fr.G.depth g + (1 : Int))), V.bool (Fr.G.quote g), V.bool (Fr.G.skip g),
                          V.bool (decide (IntKind.wrap IntKind.i64 (Fr.G.depth g + (1 : Int)) > (12 : Int)))],
                        31)]
                  [0])
          else
            bif n == (91 : Int) then
              bif !decide (IntKind.wrap IntKind.i64 (Fr.G.depth g + (1 : Int)) > (12 : Int)) then
                T.done
                  (Ret.mk (V.bool (IntKind.wrap IntKind.i64 (Fr.G.depth g + (1 : Int)) == (0 : Int)))
                    [some
                        ([V.str buf, V.int IntKind.i64 (IntKind.wrap IntKind.i64 (Fr.G.depth g + (1 : Int))), V.bool (Fr.G.quote g), V.bool (Fr.G.skip g),
                            V.bool (decide (IntKind.wrap IntKind.i64 (Fr.G.depth g + (1 : Int)) > (12 : Int)))],
                          31)]
                    [0])
              else
                T.done
                  (Ret.mk (V.bool false)
                    [some
                        ([V.str buf, V.int IntKind.i64 (IntKind.wrap IntKind.i64 (Fr.G.depth g + (1 : Int))), V.bool (Fr.G.quote g), V.bool (Fr.G.skip g),
                            V.bool (decide (IntKind.wrap IntKind.i64 (Fr.G.depth g + (1 : Int)) > (12 : Int)))],
                          31)]
                    [0])
            else
              bif n == (125 : Int) then
                bif !Fr.G.closed g then
                  T.done
                    (Ret.mk (V.bool (IntKind.wrap IntKind.i64 (Fr.G.depth g - (1 : Int)) == (0 : Int)))
                      [some ([V.str buf, V.int IntKind.i64 (IntKind.wrap IntKind.i64 (Fr.G.depth g - (1 : Int))), V.bool (Fr.G.quote g), V.bool (Fr.G.skip g), V.bool (Fr.G.closed g)], 31)] [0])
                else
                  T.done
                    (Ret.mk (V.bool false) [some ([V.str buf, V.int IntKind.i64 (IntKind.wrap IntKind.i64 (Fr.G.depth g - (1 : Int))), V.bool (Fr.G.quote g), V.bool (Fr.G.skip g), V.bool (Fr.G.closed g)], 31)]
                      [0])
              else
                bif n == (93 : Int) then
                  bif !Fr.G.closed g then
                    T.done
                      (Ret.mk (V.bool (IntKind.wrap IntKind.i64 (Fr.G.depth g - (1 : Int)) == (0 : Int)))
                        [some ([V.str buf, V.int IntKind.i64 (IntKind.wrap IntKind.i64 (Fr.G.depth g - (1 : Int))), V.bool (Fr.G.quote g), V.bool (Fr.G.skip g), V.bool (Fr.G.closed g)], 31)] [0])
                  else
                    T.done
                      (Ret.mk (V.bool false) [some ([V.str buf, V.int IntKind.i64 (IntKind.wrap IntKind.i64 (Fr.G.depth g - (1 : Int))), V.bool (Fr.G.quote g), V.bool (Fr.G.skip g), V.bool (Fr.G.closed g)], 31)]
                        [0])
                else
                  bif !Fr.G.closed g then
                    T.done (Ret.mk (V.bool (Fr.G.depth g == (0 : Int))) [some ([V.str buf, V.int IntKind.i64 (Fr.G.depth g), V.bool (Fr.G.quote g), V.bool (Fr.G.skip g), V.bool (Fr.G.closed g)], 31)] [])
                  else T.done (Ret.mk (V.bool false) [some ([V.str buf, V.int IntKind.i64 (Fr.G.depth g), V.bool (Fr.G.quote g), V.bool (Fr.G.skip g), V.bool (Fr.G.closed g)], 31)] []) := by kernel_rfl

theorem inText_ok (buf : List UInt8) (g : Fr.G) (n : Int) (long : Bool) (_ : 0 ≤ n ∧ n < 256) (hd : -1000 ≤ g.depth ∧ g.depth ≤ 1000) : FnOK Tryz.prog fInText [.ptr 0 0, .int .u8 n, .bool long] [gB buf g] ⟨.bool (Fr.inText g n long).2, [gB buf (Fr.inText g n long).1], [0]⟩ := by
  refine fnOK_TL (E := E0) follows named (inTextT buf g n long) (by simp) ?_
  simp only [WP_cond, T.WP, beq_iff_eq, beq_eq_false_iff_ne, ne_eq]
  simp (disch := omega) only [wrap_id]
  unfold Fr.inText
  obtain ⟨depth, quote, skip, closed⟩ := g
  simp only at hd ⊢
  simp only [gt_iff_lt]
  repeat' with_reducible first
    | intro h
    | apply And.intro
  all_goals first
    | omega
    | (simp [*, RetLe, gB]; done)
    | (simp [*, RetLe, gB]; omega)
    | (exfalso; simp_all; done)

end Go.Proofs.YtjgancippgpdhaaGreatDoor

namespace Go.Proofs.YtjgancippgpdhaaGreatDoor
open Go.RowKit
set_option maxRecDepth 100000

abbrev fBlank : Nat := 55
set_option maxRecDepth 100000 in
theorem blankT (n : Int) : fnT E0 0 fBlank [.int .u8 n] [] =
  bif n == (32 : Int) then T.done (Ret.mk (V.bool true) [] [])
  else bif n == (9 : Int) then T.done (Ret.mk (V.bool true) [] []) else bif n == (10 : Int) then T.done (Ret.mk (V.bool true) [] []) else T.done (Ret.mk (V.bool (n == (13 : Int))) [] []) := by kernel_rfl
theorem blank_ok (n : Int) : FnOK Tryz.prog fBlank [.int .u8 n] [] ⟨.bool (Fr.blank n), [], []⟩ := by
  refine fnOK_TL (E := E0) follows named (blankT n) (by simp) ?_
  simp only [WP_cond, T.WP, beq_iff_eq, beq_eq_false_iff_ne, ne_eq]
  unfold Fr.blank
  repeat' with_reducible first
    | intro h
    | apply And.intro
  all_goals first
    | (simp [*, RetLe]; done)
    | (exfalso; simp_all; done)

noncomputable def resIF : ResT := fun f vs hp => match vs, hp with
  | [.int _ n], [] => bif Nat.beq f fBlank then some ⟨Fr.blank n, fun y => ⟨.bool y, [], []⟩⟩ else none
  | [.ptr 0 0, .int _ n, .bool l], [some ([.str buf, .int _ d, .bool q, .bool k, .bool c], _)] => bif Nat.beq f fInText then some ⟨Fr.inText ⟨d, q, k, c⟩ n l, fun y => ⟨.bool y.2, [gB buf y.1], [0]⟩⟩ else none
  | _, _ => none
noncomputable def EIF : Env := { P := Tryz.prog, vw := vwA, res := resIF }
/-- States of the loop: the text's beginning is an own slice of bytes, or nil. -/
def stG (b0 t : List UInt8) (g : Fr.G) (buf : List UInt8) (L : List (List UInt8)) (i : Int) (bo bb : Bool) : St := ⟨mkTm 86 [(0, .ptr 0 0), (1, .str t), (5, .sl 1 0 L.length bo), (6, .sl 2 0 buf.length bb), (7, .int .i64 i)], [gB b0 g, strB L, bytB buf], [0]⟩
def stN (b0 t : List UInt8) (g : Fr.G) (L : List (List UInt8)) (i : Int) (bo : Bool) : St := ⟨mkTm 86 [(0, .ptr 0 0), (1, .str t), (5, .sl 1 0 L.length bo), (6, .dsl 0 true []), (7, .int .i64 i)], [gB b0 g, strB L], [0]⟩
def nfI : Ex → Kp := fun ex => match ex with
  | .normal => { keep := [0, 1, 5, 6, 7] }
  | _ => { keep := [0, 1, 5, 6] }

--FOLD gB strB bytB
set_option maxRecDepth 100000 in
theorem ifeedG (b0 t : List UInt8) (g : Fr.G) (buf : List UInt8) (L : List (List UInt8)) (i : Int) (bo bb : Bool) : bodyT EIF 1 nfI (lp Tryz.prog fIFeed 0) (stG b0 t g buf L i bo bb) =
  bif decide (i < (↑(List.length t) : Int)) then
    bif !Fr.G.closed g then
      T.need [(0 : Int) ≤ i ∧ i < (↑(List.length t) : Int)]
        (bif Fr.G.depth g == (0 : Int) then
          T.bind (Fr.blank (↑(UInt8.toNat (List.getD t (Int.toNat i) (0 : UInt8))) : Int)) fun y0 =>
            T.need [FnOK (Env.P EIF) 55 [V.int IntKind.u8 (↑(UInt8.toNat (List.getD t (Int.toNat i) (0 : UInt8))) : Int)] [] (Ret.mk (V.bool y0) [] [])]
              (bif y0 then
                T.done
                  (Ex.normal,
                    St.mk
                      (mkTm 86
                        [(0, V.ptr 0 0), (1, V.str t), (5, V.sl 1 0 (List.length L) bo), (6, V.sl 2 0 (List.length buf) bb),
                          (7, V.int IntKind.i64 (IntKind.wrap IntKind.i64 (i + (1 : Int))))])
                      [gB b0 g, strB L, bytB buf] [0])
              else
                bif Fr.G.depth g == (0 : Int) then
                  bif (↑(UInt8.toNat (List.getD t (Int.toNat i) (0 : UInt8))) : Int) != (123 : Int) then
                    bif (↑(UInt8.toNat (List.getD t (Int.toNat i) (0 : UInt8))) : Int) != (91 : Int) then
                      T.done
                        (Ex.normal,
                          St.mk
                            (mkTm 86
                              [(0, V.ptr 0 0), (1, V.str t), (5, V.sl 1 0 (List.length L) bo), (6, V.sl 2 0 (List.length buf) bb),
                                (7, V.int IntKind.i64 (IntKind.wrap IntKind.i64 (i + (1 : Int))))])
                            [some ([V.str b0, V.int IntKind.i64 (Fr.G.depth g), V.bool (Fr.G.quote g), V.bool (Fr.G.skip g), V.bool true], 31), strB L, bytB buf] [0])
                    else
                      T.need
                        [0 = 0, List.length (encs encByte buf) = List.length buf * 1, List.length buf + 1 ≤ 9223372036854775807,
                          (List.length buf + 1) * 1 ≤ 140737488355328]
                        (T.bind
                          (Fr.inText (Fr.G.mk (Fr.G.depth g) (Fr.G.quote g) (Fr.G.skip g) (Fr.G.closed g)) (↑(UInt8.toNat (List.getD t (Int.toNat i) (0 : UInt8))) : Int)
                            (decide ((↑(List.length buf + 1) : Int) > (3000 : Int))))
                          fun y1 =>
                          T.need
                            [FnOK (Env.P EIF) 56
                                [V.ptr 0 0, V.int IntKind.u8 (↑(UInt8.toNat (List.getD t (Int.toNat i) (0 : UInt8))) : Int), V.bool (decide ((↑(List.length buf + 1) : Int) > (3000 : Int)))]
                                [gB b0 g] (Ret.mk (V.bool (Prod.snd y1)) [gB b0 (Prod.fst y1)] [0])]
                            (bif Prod.snd y1 then
                              T.need
                                [encs encByte buf = byts (decL encByte (encs encByte buf)),
                                  (0 : Int) ≤ (↑(UInt8.toNat (List.getD t (Int.toNat i) (0 : UInt8))) : Int) ∧ (↑(UInt8.toNat (List.getD t (Int.toNat i) (0 : UInt8))) : Int) < (256 : Int), 0 = 0,
                                  List.length (decL encByte (encs encByte buf) ++ [UInt8.ofNat (Int.toNat (↑(UInt8.toNat (List.getD t (Int.toNat i) (0 : UInt8))) : Int))]) = List.length buf + 1]
                                (T.need
                                  [0 = 0, List.length (encs encStr L) = List.length L * 1, List.length L + 1 ≤ 9223372036854775807,
                                    (List.length L + 1) * 16 ≤ 140737488355328]
                                  (T.done
                                    (Ex.normal,
                                      St.mk
                                        (mkTm 86
                                          [(0, V.ptr 0 0), (1, V.str t), (5, V.sl 1 0 (List.length L + 1) false), (6, V.dsl 0 true []),
                                            (7, V.int IntKind.i64 (IntKind.wrap IntKind.i64 (i + (1 : Int))))])
                                        [gB b0 (Prod.fst y1),
                                          some ([V.sld (encs encStr L ++ [V.str (decL encByte (encs encByte buf) ++ [UInt8.ofNat (Int.toNat (↑(UInt8.toNat (List.getD t (Int.toNat i) (0 : UInt8))) : Int))])])], 9)]
                                        [0])))
                            else
                              T.done
                                (Ex.normal,
                                  St.mk
                                    (mkTm 86
                                      [(0, V.ptr 0 0), (1, V.str t), (5, V.sl 1 0 (List.length L) bo),
                                        (6, V.sl 2 0 (List.length buf + 1) false), (7, V.int IntKind.i64 (IntKind.wrap IntKind.i64 (i + (1 : Int))))])
                                    [gB b0 (Prod.fst y1), strB L, some ([V.sld (encs encByte buf ++ [V.int IntKind.u8 (↑(UInt8.toNat (List.getD t (Int.toNat i) (0 : UInt8))) : Int)])], 5)] [0])))
                  else
                    T.need
                      [0 = 0, List.length (encs encByte buf) = List.length buf * 1, List.length buf + 1 ≤ 9223372036854775807,
                        (List.length buf + 1) * 1 ≤ 140737488355328]
                      (T.bind
                        (Fr.inText (Fr.G.mk (Fr.G.depth g) (Fr.G.quote g) (Fr.G.skip g) (Fr.G.closed g)) (↑(UInt8.toNat (List.getD t (Int.toNat i) (0 : UInt8))) : Int)
                          (decide ((↑(List.length buf + 1) : Int) > (3000 : Int))))
                        fun y2 =>
                        T.need
                          [FnOK (Env.P EIF) 56
                              [V.ptr 0 0, V.int IntKind.u8 (↑(UInt8.toNat (List.getD t (Int.toNat i) (0 : UInt8))) : Int), V.bool (decide ((↑(List.length buf + 1) : Int) > (3000 : Int)))] [gB b0 g]
                              (Ret.mk (V.bool (Prod.snd y2)) [gB b0 (Prod.fst y2)] [0])]
                          (bif Prod.snd y2 then
                            T.need
                              [encs encByte buf = byts (decL encByte (encs encByte buf)),
                                (0 : Int) ≤ (↑(UInt8.toNat (List.getD t (Int.toNat i) (0 : UInt8))) : Int) ∧ (↑(UInt8.toNat (List.getD t (Int.toNat i) (0 : UInt8))) : Int) < (256 : Int), 0 = 0,
                                List.length (decL encByte (encs encByte buf) ++ [UInt8.ofNat (Int.toNat (↑(UInt8.toNat (List.getD t (Int.toNat i) (0 : UInt8))) : Int))]) = List.length buf + 1]
                              (T.need
                                [0 = 0, List.length (encs encStr L) = List.length L * 1, List.length L + 1 ≤ 9223372036854775807,
                                  (List.length L + 1) * 16 ≤ 140737488355328]
                                (T.done
                                  (Ex.normal,
                                    St.mk
                                      (mkTm 86
                                        [(0, V.ptr 0 0), (1, V.str t), (5, V.sl 1 0 (List.length L + 1) false), (6, V.dsl 0 true []),
                                          (7, V.int IntKind.i64 (IntKind.wrap IntKind.i64 (i + (1 : Int))))])
                                      [gB b0 (Prod.fst y2),
                                        some ([V.sld (encs encStr L ++ [V.str (decL encByte (encs encByte buf) ++ [UInt8.ofNat (Int.toNat (↑(UInt8.toNat (List.getD t (Int.toNat i) (0 : UInt8))) : Int))])])], 9)]
                                      [0])))
                          else
                            T.done
                              (Ex.normal,
                                St.mk
                                  (mkTm 86
                                    [(0, V.ptr 0 0), (1, V.str t), (5, V.sl 1 0 (List.length L) bo),
                                      (6, V.sl 2 0 (List.length buf + 1) false), (7, V.int IntKind.i64 (IntKind.wrap IntKind.i64 (i + (1 : Int))))])
                                  [gB b0 (Prod.fst y2), strB L, some ([V.sld (encs encByte buf ++ [V.int IntKind.u8 (↑(UInt8.toNat (List.getD t (Int.toNat i) (0 : UInt8))) : Int)])], 5)] [0])))
                else
                  T.need
                    [0 = 0, List.length (encs encByte buf) = List.length buf * 1, List.length buf + 1 ≤ 9223372036854775807,
                      (List.length buf + 1) * 1 ≤ 140737488355328]
                    (T.bind
                      (Fr.inText (Fr.G.mk (Fr.G.depth g) (Fr.G.quote g) (Fr.G.skip g) (Fr.G.closed g)) (↑(UInt8.toNat (List.getD t (Int.toNat i) (0 : UInt8))) : Int)
                        (decide ((↑(List.length buf + 1) : Int) > (3000 : Int))))
                      fun y3 =>
                      T.need
                        [FnOK (Env.P EIF) 56
                            [V.ptr 0 0, V.int IntKind.u8 (↑(UInt8.toNat (List.getD t (Int.toNat i) (0 : UInt8))) : Int), V.bool (decide ((↑(List.length buf + 1) : Int) > (3000 : Int)))] [gB b0 g]
                            (Ret.mk (V.bool (Prod.snd y3)) [gB b0 (Prod.fst y3)] [0])]
                        (bif Prod.snd y3 then
                          T.need
                            [encs encByte buf = byts (decL encByte (encs encByte buf)),
                              (0 : Int) ≤ (↑(UInt8.toNat (List.getD t (Int.toNat i) (0 : UInt8))) : Int) ∧ (↑(UInt8.toNat (List.getD t (Int.toNat i) (0 : UInt8))) : Int) < (256 : Int), 0 = 0,
                              List.length (decL encByte (encs encByte buf) ++ [UInt8.ofNat (Int.toNat (↑(UInt8.toNat (List.getD t (Int.toNat i) (0 : UInt8))) : Int))]) = List.length buf + 1]
                            (T.need
                              [0 = 0, List.length (encs encStr L) = List.length L * 1, List.length L + 1 ≤ 9223372036854775807,
                                (List.length L + 1) * 16 ≤ 140737488355328]
                              (T.done
                                (Ex.normal,
                                  St.mk
                                    (mkTm 86
                                      [(0, V.ptr 0 0), (1, V.str t), (5, V.sl 1 0 (List.length L + 1) false), (6, V.dsl 0 true []),
                                        (7, V.int IntKind.i64 (IntKind.wrap IntKind.i64 (i + (1 : Int))))])
                                    [gB b0 (Prod.fst y3),
                                      some ([V.sld (encs encStr L ++ [V.str (decL encByte (encs encByte buf) ++ [UInt8.ofNat (Int.toNat (↑(UInt8.toNat (List.getD t (Int.toNat i) (0 : UInt8))) : Int))])])], 9)]
                                    [0])))
                        else
                          T.done
                            (Ex.normal,
                              St.mk
                                (mkTm 86
                                  [(0, V.ptr 0 0), (1, V.str t), (5, V.sl 1 0 (List.length L) bo),
                                    (6, V.sl 2 0 (List.length buf + 1) false), (7, V.int IntKind.i64 (IntKind.wrap IntKind.i64 (i + (1 : Int))))])
                                [gB b0 (Prod.fst y3), strB L, some ([V.sld (encs encByte buf ++ [V.int IntKind.u8 (↑(UInt8.toNat (List.getD t (Int.toNat i) (0 : UInt8))) : Int)])], 5)] [0]))))
        else
          bif Fr.G.depth g == (0 : Int) then
            bif (↑(UInt8.toNat (List.getD t (Int.toNat i) (0 : UInt8))) : Int) != (123 : Int) then
              bif (↑(UInt8.toNat (List.getD t (Int.toNat i) (0 : UInt8))) : Int) != (91 : Int) then
                T.done
                  (Ex.normal,
                    St.mk
                      (mkTm 86
                        [(0, V.ptr 0 0), (1, V.str t), (5, V.sl 1 0 (List.length L) bo), (6, V.sl 2 0 (List.length buf) bb),
                          (7, V.int IntKind.i64 (IntKind.wrap IntKind.i64 (i + (1 : Int))))])
                      [some ([V.str b0, V.int IntKind.i64 (Fr.G.depth g), V.bool (Fr.G.quote g), V.bool (Fr.G.skip g), V.bool true], 31), strB L, bytB buf] [0])
              else
                T.need
                  [0 = 0, List.length (encs encByte buf) = List.length buf * 1, List.length buf + 1 ≤ 9223372036854775807,
                    (List.length buf + 1) * 1 ≤ 140737488355328]
                  (T.bind
                    (Fr.inText (Fr.G.mk (Fr.G.depth g) (Fr.G.quote g) (Fr.G.skip g) (Fr.G.closed g)) (↑(UInt8.toNat (List.getD t (Int.toNat i) (0 : UInt8))) : Int)
                      (decide ((↑(List.length buf + 1) : Int) > (3000 : Int))))
                    fun y4 =>
                    T.need
                      [FnOK (Env.P EIF) 56
                          [V.ptr 0 0, V.int IntKind.u8 (↑(UInt8.toNat (List.getD t (Int.toNat i) (0 : UInt8))) : Int), V.bool (decide ((↑(List.length buf + 1) : Int) > (3000 : Int)))] [gB b0 g]
                          (Ret.mk (V.bool (Prod.snd y4)) [gB b0 (Prod.fst y4)] [0])]
                      (bif Prod.snd y4 then
                        T.need
                          [encs encByte buf = byts (decL encByte (encs encByte buf)),
                            (0 : Int) ≤ (↑(UInt8.toNat (List.getD t (Int.toNat i) (0 : UInt8))) : Int) ∧ (↑(UInt8.toNat (List.getD t (Int.toNat i) (0 : UInt8))) : Int) < (256 : Int), 0 = 0,
                            List.length (decL encByte (encs encByte buf) ++ [UInt8.ofNat (Int.toNat (↑(UInt8.toNat (List.getD t (Int.toNat i) (0 : UInt8))) : Int))]) = List.length buf + 1]
                          (T.need
                            [0 = 0, List.length (encs encStr L) = List.length L * 1, List.length L + 1 ≤ 9223372036854775807,
                              (List.length L + 1) * 16 ≤ 140737488355328]
                            (T.done
                              (Ex.normal,
                                St.mk
                                  (mkTm 86
                                    [(0, V.ptr 0 0), (1, V.str t), (5, V.sl 1 0 (List.length L + 1) false), (6, V.dsl 0 true []),
                                      (7, V.int IntKind.i64 (IntKind.wrap IntKind.i64 (i + (1 : Int))))])
                                  [gB b0 (Prod.fst y4),
                                    some ([V.sld (encs encStr L ++ [V.str (decL encByte (encs encByte buf) ++ [UInt8.ofNat (Int.toNat (↑(UInt8.toNat (List.getD t (Int.toNat i) (0 : UInt8))) : Int))])])], 9)]
                                  [0])))
                      else
                        T.done
                          (Ex.normal,
                            St.mk
                              (mkTm 86
                                [(0, V.ptr 0 0), (1, V.str t), (5, V.sl 1 0 (List.length L) bo),
                                  (6, V.sl 2 0 (List.length buf + 1) false), (7, V.int IntKind.i64 (IntKind.wrap IntKind.i64 (i + (1 : Int))))])
                              [gB b0 (Prod.fst y4), strB L, some ([V.sld (encs encByte buf ++ [V.int IntKind.u8 (↑(UInt8.toNat (List.getD t (Int.toNat i) (0 : UInt8))) : Int)])], 5)] [0])))
            else
              T.need
                [0 = 0, List.length (encs encByte buf) = List.length buf * 1, List.length buf + 1 ≤ 9223372036854775807,
                  (List.length buf + 1) * 1 ≤ 140737488355328]
                (T.bind
                  (Fr.inText (Fr.G.mk (Fr.G.depth g) (Fr.G.quote g) (Fr.G.skip g) (Fr.G.closed g)) (↑(UInt8.toNat (List.getD t (Int.toNat i) (0 : UInt8))) : Int)
                    (decide ((↑(List.length buf + 1) : Int) > (3000 : Int))))
                  fun y5 =>
                  T.need
                    [FnOK (Env.P EIF) 56
                        [V.ptr 0 0, V.int IntKind.u8 (↑(UInt8.toNat (List.getD t (Int.toNat i) (0 : UInt8))) : Int), V.bool (decide ((↑(List.length buf + 1) : Int) > (3000 : Int)))] [gB b0 g]
                        (Ret.mk (V.bool (Prod.snd y5)) [gB b0 (Prod.fst y5)] [0])]
                    (bif Prod.snd y5 then
                      T.need
                        [encs encByte buf = byts (decL encByte (encs encByte buf)),
                          (0 : Int) ≤ (↑(UInt8.toNat (List.getD t (Int.toNat i) (0 : UInt8))) : Int) ∧ (↑(UInt8.toNat (List.getD t (Int.toNat i) (0 : UInt8))) : Int) < (256 : Int), 0 = 0,
                          List.length (decL encByte (encs encByte buf) ++ [UInt8.ofNat (Int.toNat (↑(UInt8.toNat (List.getD t (Int.toNat i) (0 : UInt8))) : Int))]) = List.length buf + 1]
                        (T.need
                          [0 = 0, List.length (encs encStr L) = List.length L * 1, List.length L + 1 ≤ 9223372036854775807,
                            (List.length L + 1) * 16 ≤ 140737488355328]
                          (T.done
                            (Ex.normal,
                              St.mk
                                (mkTm 86
                                  [(0, V.ptr 0 0), (1, V.str t), (5, V.sl 1 0 (List.length L + 1) false), (6, V.dsl 0 true []),
                                    (7, V.int IntKind.i64 (IntKind.wrap IntKind.i64 (i + (1 : Int))))])
                                [gB b0 (Prod.fst y5),
                                  some ([V.sld (encs encStr L ++ [V.str (decL encByte (encs encByte buf) ++ [UInt8.ofNat (Int.toNat (↑(UInt8.toNat (List.getD t (Int.toNat i) (0 : UInt8))) : Int))])])], 9)]
                                [0])))
                    else
                      T.done
                        (Ex.normal,
                          St.mk
                            (mkTm 86
                              [(0, V.ptr 0 0), (1, V.str t), (5, V.sl 1 0 (List.length L) bo),
                                (6, V.sl 2 0 (List.length buf + 1) false), (7, V.int IntKind.i64 (IntKind.wrap IntKind.i64 (i + (1 : Int))))])
                            [gB b0 (Prod.fst y5), strB L, some ([V.sld (encs encByte buf ++ [V.int IntKind.u8 (↑(UInt8.toNat (List.getD t (Int.toNat i) (0 : UInt8))) : Int)])], 5)] [0])))
          else
            T.need
              [0 = 0, List.length (encs encByte buf) = List.length buf * 1, List.length buf + 1 ≤ 9223372036854775807,
                (List.length buf + 1) * 1 ≤ 140737488355328]
              (T.bind
                (Fr.inText (Fr.G.mk (Fr.G.depth g) (Fr.G.quote g) (Fr.G.skip g) (Fr.G.closed g)) (↑(UInt8.toNat (List.getD t (Int.toNat i) (0 : UInt8))) : Int)
                  (decide ((↑(List.length buf + 1) : Int) > (3000 : Int))))
                fun y6 =>
                T.need
                  [FnOK (Env.P EIF) 56
                      [V.ptr 0 0, V.int IntKind.u8 (↑(UInt8.toNat (List.getD t (Int.toNat i) (0 : UInt8))) : Int), V.bool (decide ((↑(List.length buf + 1) : Int) > (3000 : Int)))] [gB b0 g]
                      (Ret.mk (V.bool (Prod.snd y6)) [gB b0 (Prod.fst y6)] [0])]
                  (bif Prod.snd y6 then
                    T.need
                      [encs encByte buf = byts (decL encByte (encs encByte buf)),
                        (0 : Int) ≤ (↑(UInt8.toNat (List.getD t (Int.toNat i) (0 : UInt8))) : Int) ∧ (↑(UInt8.toNat (List.getD t (Int.toNat i) (0 : UInt8))) : Int) < (256 : Int), 0 = 0,
                        List.length (decL encByte (encs encByte buf) ++ [UInt8.ofNat (Int.toNat (↑(UInt8.toNat (List.getD t (Int.toNat i) (0 : UInt8))) : Int))]) = List.length buf + 1]
                      (T.need
                        [0 = 0, List.length (encs encStr L) = List.length L * 1, List.length L + 1 ≤ 9223372036854775807,
                          (List.length L + 1) * 16 ≤ 140737488355328]
                        (T.done
                          (Ex.normal,
                            St.mk
                              (mkTm 86
                                [(0, V.ptr 0 0), (1, V.str t), (5, V.sl 1 0 (List.length L + 1) false), (6, V.dsl 0 true []),
                                  (7, V.int IntKind.i64 (IntKind.wrap IntKind.i64 (i + (1 : Int))))])
                              [gB b0 (Prod.fst y6),
                                some ([V.sld (encs encStr L ++ [V.str (decL encByte (encs encByte buf) ++ [UInt8.ofNat (Int.toNat (↑(UInt8.toNat (List.getD t (Int.toNat i) (0 : UInt8))) : Int))])])], 9)]
                              [0])))
                  else
                    T.done
                      (Ex.normal,
                        St.mk
                          (mkTm 86
                            [(0, V.ptr 0 0), (1, V.str t), (5, V.sl 1 0 (List.length L) bo),
                              (6, V.sl 2 0 (List.length buf + 1) false), (7, V.int IntKind.i64 (IntKind.wrap IntKind.i64 (i + (1 : Int))))])
                          [gB b0 (Prod.fst y6), strB L, some ([V.sld (encs encByte buf ++ [V.int IntKind.u8 (↑(UInt8.toNat (List.getD t (Int.toNat i) (0 : UInt8))) : Int)])], 5)] [0]))))
    else
      T.done
        (Ex.exit 0,
          St.mk (mkTm 86 [(0, V.ptr 0 0), (1, V.str t), (5, V.sl 1 0 (List.length L) bo), (6, V.sl 2 0 (List.length buf) bb)])
            [gB b0 g, strB L, bytB buf] [0])
  else
    T.done
      (Ex.exit 0,
        St.mk (mkTm 86 [(0, V.ptr 0 0), (1, V.str t), (5, V.sl 1 0 (List.length L) bo), (6, V.sl 2 0 (List.length buf) bb)])
          [gB b0 g, strB L, bytB buf] [0]) := by kernel_rfl
set_option maxRecDepth 100000 in
theorem ifeedN (b0 t : List UInt8) (g : Fr.G) (L : List (List UInt8)) (i : Int) (bo : Bool) : bodyT EIF 1 nfI (lp Tryz.prog fIFeed 0) (stN b0 t g L i bo) =
  bif decide (i < (↑(List.length t) : Int)) then
    bif !Fr.G.closed g then
      T.need [(0 : Int) ≤ i ∧ i < (↑(List.length t) : Int)]
        (bif Fr.G.depth g == (0 : Int) then
          T.bind (Fr.blank (↑(UInt8.toNat (List.getD t (Int.toNat i) (0 : UInt8))) : Int)) fun y0 =>
            T.need [FnOK (Env.P EIF) 55 [V.int IntKind.u8 (↑(UInt8.toNat (List.getD t (Int.toNat i) (0 : UInt8))) : Int)] [] (Ret.mk (V.bool y0) [] [])]
              (bif y0 then
                T.done
                  (Ex.normal,
                    St.mk
                      (mkTm 86
                        [(0, V.ptr 0 0), (1, V.str t), (5, V.sl 1 0 (List.length L) bo), (6, V.dsl 0 true []),
                          (7, V.int IntKind.i64 (IntKind.wrap IntKind.i64 (i + (1 : Int))))])
                      [gB b0 g, strB L] [0])
              else
                bif Fr.G.depth g == (0 : Int) then
                  bif (↑(UInt8.toNat (List.getD t (Int.toNat i) (0 : UInt8))) : Int) != (123 : Int) then
                    bif (↑(UInt8.toNat (List.getD t (Int.toNat i) (0 : UInt8))) : Int) != (91 : Int) then
                      T.done
                        (Ex.normal,
                          St.mk
                            (mkTm 86
                              [(0, V.ptr 0 0), (1, V.str t), (5, V.sl 1 0 (List.length L) bo), (6, V.dsl 0 true []),
                                (7, V.int IntKind.i64 (IntKind.wrap IntKind.i64 (i + (1 : Int))))])
                            [some ([V.str b0, V.int IntKind.i64 (Fr.G.depth g), V.bool (Fr.G.quote g), V.bool (Fr.G.skip g), V.bool true], 31), strB L] [0])
                    else
                      T.need [true = true, 0 = 0, 1 ≤ 9223372036854775807, 1 ≤ 140737488355328]
                        (T.bind (Fr.inText (Fr.G.mk (Fr.G.depth g) (Fr.G.quote g) (Fr.G.skip g) (Fr.G.closed g)) (↑(UInt8.toNat (List.getD t (Int.toNat i) (0 : UInt8))) : Int) false) fun y1 =>
                          T.need
                            [FnOK (Env.P EIF) 56 [V.ptr 0 0, V.int IntKind.u8 (↑(UInt8.toNat (List.getD t (Int.toNat i) (0 : UInt8))) : Int), V.bool false] [gB b0 g]
                                (Ret.mk (V.bool (Prod.snd y1)) [gB b0 (Prod.fst y1)] [0])]
                            (bif Prod.snd y1 then
                              T.need
                                [[] = byts (decL encByte []), (0 : Int) ≤ (↑(UInt8.toNat (List.getD t (Int.toNat i) (0 : UInt8))) : Int) ∧ (↑(UInt8.toNat (List.getD t (Int.toNat i) (0 : UInt8))) : Int) < (256 : Int),
                                  0 = 0, List.length (decL encByte [] ++ [UInt8.ofNat (Int.toNat (↑(UInt8.toNat (List.getD t (Int.toNat i) (0 : UInt8))) : Int))]) = 1]
                                (T.need
                                  [0 = 0, List.length (encs encStr L) = List.length L * 1, List.length L + 1 ≤ 9223372036854775807,
                                    (List.length L + 1) * 16 ≤ 140737488355328]
                                  (T.done
                                    (Ex.normal,
                                      St.mk
                                        (mkTm 86
                                          [(0, V.ptr 0 0), (1, V.str t), (5, V.sl 1 0 (List.length L + 1) false), (6, V.dsl 0 true []),
                                            (7, V.int IntKind.i64 (IntKind.wrap IntKind.i64 (i + (1 : Int))))])
                                        [gB b0 (Prod.fst y1),
                                          some ([V.sld (encs encStr L ++ [V.str (decL encByte [] ++ [UInt8.ofNat (Int.toNat (↑(UInt8.toNat (List.getD t (Int.toNat i) (0 : UInt8))) : Int))])])], 9)]
                                        [0])))
                            else
                              T.done
                                (Ex.normal,
                                  St.mk
                                    (mkTm 86
                                      [(0, V.ptr 0 0), (1, V.str t), (5, V.sl 1 0 (List.length L) bo), (6, V.sl 2 0 1 false),
                                        (7, V.int IntKind.i64 (IntKind.wrap IntKind.i64 (i + (1 : Int))))])
                                    [gB b0 (Prod.fst y1), strB L, some ([V.sld [V.int IntKind.u8 (↑(UInt8.toNat (List.getD t (Int.toNat i) (0 : UInt8))) : Int)]], 5)] [0])))
                  else
                    T.need [true = true, 0 = 0, 1 ≤ 9223372036854775807, 1 ≤ 140737488355328]
                      (T.bind (Fr.inText (Fr.G.mk (Fr.G.depth g) (Fr.G.quote g) (Fr.G.skip g) (Fr.G.closed g)) (↑(UInt8.toNat (List.getD t (Int.toNat i) (0 : UInt8))) : Int) false) fun y2 =>
                        T.need
                          [FnOK (Env.P EIF) 56 [V.ptr 0 0, V.int IntKind.u8 (↑(UInt8.toNat (List.getD t (Int.toNat i) (0 : UInt8))) : Int), V.bool false] [gB b0 g]
                              (Ret.mk (V.bool (Prod.snd y2)) [gB b0 (Prod.fst y2)] [0])]
                          (bif Prod.snd y2 then
                            T.need
                              [[] = byts (decL encByte []), (0 : Int) ≤ (↑(UInt8.toNat (List.getD t (Int.toNat i) (0 : UInt8))) : Int) ∧ (↑(UInt8.toNat (List.getD t (Int.toNat i) (0 : UInt8))) : Int) < (256 : Int),
                                0 = 0, List.length (decL encByte [] ++ [UInt8.ofNat (Int.toNat (↑(UInt8.toNat (List.getD t (Int.toNat i) (0 : UInt8))) : Int))]) = 1]
                              (T.need
                                [0 = 0, List.length (encs encStr L) = List.length L * 1, List.length L + 1 ≤ 9223372036854775807,
                                  (List.length L + 1) * 16 ≤ 140737488355328]
                                (T.done
                                  (Ex.normal,
                                    St.mk
                                      (mkTm 86
                                        [(0, V.ptr 0 0), (1, V.str t), (5, V.sl 1 0 (List.length L + 1) false), (6, V.dsl 0 true []),
                                          (7, V.int IntKind.i64 (IntKind.wrap IntKind.i64 (i + (1 : Int))))])
                                      [gB b0 (Prod.fst y2),
                                        some ([V.sld (encs encStr L ++ [V.str (decL encByte [] ++ [UInt8.ofNat (Int.toNat (↑(UInt8.toNat (List.getD t (Int.toNat i) (0 : UInt8))) : Int))])])], 9)]
                                      [0])))
                          else
                            T.done
                              (Ex.normal,
                                St.mk
                                  (mkTm 86
                                    [(0, V.ptr 0 0), (1, V.str t), (5, V.sl 1 0 (List.length L) bo), (6, V.sl 2 0 1 false),
                                      (7, V.int IntKind.i64 (IntKind.wrap IntKind.i64 (i + (1 : Int))))])
                                  [gB b0 (Prod.fst y2), strB L, some ([V.sld [V.int IntKind.u8 (↑(UInt8.toNat (List.getD t (Int.toNat i) (0 : UInt8))) : Int)]], 5)] [0])))
                else
                  T.need [true = true, 0 = 0, 1 ≤ 9223372036854775807, 1 ≤ 140737488355328]
                    (T.bind (Fr.inText (Fr.G.mk (Fr.G.depth g) (Fr.G.quote g) (Fr.G.skip g) (Fr.G.closed g)) (↑(UInt8.toNat (List.getD t (Int.toNat i) (0 : UInt8))) : Int) false) fun y3 =>
                      T.need
                        [FnOK (Env.P EIF) 56 [V.ptr 0 0, V.int IntKind.u8 (↑(UInt8.toNat (List.getD t (Int.toNat i) (0 : UInt8))) : Int), V.bool false] [gB b0 g]
                            (Ret.mk (V.bool (Prod.snd y3)) [gB b0 (Prod.fst y3)] [0])]
                        (bif Prod.snd y3 then
                          T.need
                            [[] = byts (decL encByte []), (0 : Int) ≤ (↑(UInt8.toNat (List.getD t (Int.toNat i) (0 : UInt8))) : Int) ∧ (↑(UInt8.toNat (List.getD t (Int.toNat i) (0 : UInt8))) : Int) < (256 : Int),
                              0 = 0, List.length (decL encByte [] ++ [UInt8.ofNat (Int.toNat (↑(UInt8.toNat (List.getD t (Int.toNat i) (0 : UInt8))) : Int))]) = 1]
                            (T.need
                              [0 = 0, List.length (encs encStr L) = List.length L * 1, List.length L + 1 ≤ 9223372036854775807,
                                (List.length L + 1) * 16 ≤ 140737488355328]
                              (T.done
                                (Ex.normal,
                                  St.mk
                                    (mkTm 86
                                      [(0, V.ptr 0 0), (1, V.str t), (5, V.sl 1 0 (List.length L + 1) false), (6, V.dsl 0 true []),
                                        (7, V.int IntKind.i64 (IntKind.wrap IntKind.i64 (i + (1 : Int))))])
                                    [gB b0 (Prod.fst y3), some ([V.sld (encs encStr L ++ [V.str (decL encByte [] ++ [UInt8.ofNat (Int.toNat (↑(UInt8.toNat (List.getD t (Int.toNat i) (0 : UInt8))) : Int))])])], 9)]
                                    [0])))
                        else
                          T.done
                            (Ex.normal,
                              St.mk
                                (mkTm 86
                                  [(0, V.ptr 0 0), (1, V.str t), (5, V.sl 1 0 (List.length L) bo), (6, V.sl 2 0 1 false),
                                    (7, V.int IntKind.i64 (IntKind.wrap IntKind.i64 (i + (1 : Int))))])
                                [gB b0 (Prod.fst y3), strB L, some ([V.sld [V.int IntKind.u8 (↑(UInt8.toNat (List.getD t (Int.toNat i) (0 : UInt8))) : Int)]], 5)] [0]))))
        else
          bif Fr.G.depth g == (0 : Int) then
            bif (↑(UInt8.toNat (List.getD t (Int.toNat i) (0 : UInt8))) : Int) != (123 : Int) then
              bif (↑(UInt8.toNat (List.getD t (Int.toNat i) (0 : UInt8))) : Int) != (91 : Int) then
                T.done
                  (Ex.normal,
                    St.mk
                      (mkTm 86
                        [(0, V.ptr 0 0), (1, V.str t), (5, V.sl 1 0 (List.length L) bo), (6, V.dsl 0 true []),
                          (7, V.int IntKind.i64 (IntKind.wrap IntKind.i64 (i + (1 : Int))))])
                      [some ([V.str b0, V.int IntKind.i64 (Fr.G.depth g), V.bool (Fr.G.quote g), V.bool (Fr.G.skip g), V.bool true], 31), strB L] [0])
              else
                T.need [true = true, 0 = 0, 1 ≤ 9223372036854775807, 1 ≤ 140737488355328]
                  (T.bind (Fr.inText (Fr.G.mk (Fr.G.depth g) (Fr.G.quote g) (Fr.G.skip g) (Fr.G.closed g)) (↑(UInt8.toNat (List.getD t (Int.toNat i) (0 : UInt8))) : Int) false) fun y4 =>
                    T.need
                      [FnOK (Env.P EIF) 56 [V.ptr 0 0, V.int IntKind.u8 (↑(UInt8.toNat (List.getD t (Int.toNat i) (0 : UInt8))) : Int), V.bool false] [gB b0 g]
                          (Ret.mk (V.bool (Prod.snd y4)) [gB b0 (Prod.fst y4)] [0])]
                      (bif Prod.snd y4 then
                        T.need
                          [[] = byts (decL encByte []), (0 : Int) ≤ (↑(UInt8.toNat (List.getD t (Int.toNat i) (0 : UInt8))) : Int) ∧ (↑(UInt8.toNat (List.getD t (Int.toNat i) (0 : UInt8))) : Int) < (256 : Int),
                            0 = 0, List.length (decL encByte [] ++ [UInt8.ofNat (Int.toNat (↑(UInt8.toNat (List.getD t (Int.toNat i) (0 : UInt8))) : Int))]) = 1]
                          (T.need
                            [0 = 0, List.length (encs encStr L) = List.length L * 1, List.length L + 1 ≤ 9223372036854775807,
                              (List.length L + 1) * 16 ≤ 140737488355328]
                            (T.done
                              (Ex.normal,
                                St.mk
                                  (mkTm 86
                                    [(0, V.ptr 0 0), (1, V.str t), (5, V.sl 1 0 (List.length L + 1) false), (6, V.dsl 0 true []),
                                      (7, V.int IntKind.i64 (IntKind.wrap IntKind.i64 (i + (1 : Int))))])
                                  [gB b0 (Prod.fst y4), some ([V.sld (encs encStr L ++ [V.str (decL encByte [] ++ [UInt8.ofNat (Int.toNat (↑(UInt8.toNat (List.getD t (Int.toNat i) (0 : UInt8))) : Int))])])], 9)]
                                  [0])))
                      else
                        T.done
                          (Ex.normal,
                            St.mk
                              (mkTm 86
                                [(0, V.ptr 0 0), (1, V.str t), (5, V.sl 1 0 (List.length L) bo), (6, V.sl 2 0 1 false),
                                  (7, V.int IntKind.i64 (IntKind.wrap IntKind.i64 (i + (1 : Int))))])
                              [gB b0 (Prod.fst y4), strB L, some ([V.sld [V.int IntKind.u8 (↑(UInt8.toNat (List.getD t (Int.toNat i) (0 : UInt8))) : Int)]], 5)] [0])))
            else
              T.need [true = true, 0 = 0, 1 ≤ 9223372036854775807, 1 ≤ 140737488355328]
                (T.bind (Fr.inText (Fr.G.mk (Fr.G.depth g) (Fr.G.quote g) (Fr.G.skip g) (Fr.G.closed g)) (↑(UInt8.toNat (List.getD t (Int.toNat i) (0 : UInt8))) : Int) false) fun y5 =>
                  T.need
                    [FnOK (Env.P EIF) 56 [V.ptr 0 0, V.int IntKind.u8 (↑(UInt8.toNat (List.getD t (Int.toNat i) (0 : UInt8))) : Int), V.bool false] [gB b0 g]
                        (Ret.mk (V.bool (Prod.snd y5)) [gB b0 (Prod.fst y5)] [0])]
                    (bif Prod.snd y5 then
                      T.need
                        [[] = byts (decL encByte []), (0 : Int) ≤ (↑(UInt8.toNat (List.getD t (Int.toNat i) (0 : UInt8))) : Int) ∧ (↑(UInt8.toNat (List.getD t (Int.toNat i) (0 : UInt8))) : Int) < (256 : Int),
                          0 = 0, List.length (decL encByte [] ++ [UInt8.ofNat (Int.toNat (↑(UInt8.toNat (List.getD t (Int.toNat i) (0 : UInt8))) : Int))]) = 1]
                        (T.need
                          [0 = 0, List.length (encs encStr L) = List.length L * 1, List.length L + 1 ≤ 9223372036854775807,
                            (List.length L + 1) * 16 ≤ 140737488355328]
                          (T.done
                            (Ex.normal,
                              St.mk
                                (mkTm 86
                                  [(0, V.ptr 0 0), (1, V.str t), (5, V.sl 1 0 (List.length L + 1) false), (6, V.dsl 0 true []),
                                    (7, V.int IntKind.i64 (IntKind.wrap IntKind.i64 (i + (1 : Int))))])
                                [gB b0 (Prod.fst y5), some ([V.sld (encs encStr L ++ [V.str (decL encByte [] ++ [UInt8.ofNat (Int.toNat (↑(UInt8.toNat (List.getD t (Int.toNat i) (0 : UInt8))) : Int))])])], 9)]
                                [0])))
                    else
                      T.done
                        (Ex.normal,
                          St.mk
                            (mkTm 86
                              [(0, V.ptr 0 0), (1, V.str t), (5, V.sl 1 0 (List.length L) bo), (6, V.sl 2 0 1 false),
                                (7, V.int IntKind.i64 (IntKind.wrap IntKind.i64 (i + (1 : Int))))])
                            [gB b0 (Prod.fst y5), strB L, some ([V.sld [V.int IntKind.u8 (↑(UInt8.toNat (List.getD t (Int.toNat i) (0 : UInt8))) : Int)]], 5)] [0])))
          else
            T.need [true = true, 0 = 0, 1 ≤ 9223372036854775807, 1 ≤ 140737488355328]
              (T.bind (Fr.inText (Fr.G.mk (Fr.G.depth g) (Fr.G.quote g) (Fr.G.skip g) (Fr.G.closed g)) (↑(UInt8.toNat (List.getD t (Int.toNat i) (0 : UInt8))) : Int) false) fun y6 =>
                T.need
                  [FnOK (Env.P EIF) 56 [V.ptr 0 0, V.int IntKind.u8 (↑(UInt8.toNat (List.getD t (Int.toNat i) (0 : UInt8))) : Int), V.bool false] [gB b0 g]
                      (Ret.mk (V.bool (Prod.snd y6)) [gB b0 (Prod.fst y6)] [0])]
                  (bif Prod.snd y6 then
                    T.need
                      [[] = byts (decL encByte []), (0 : Int) ≤ (↑(UInt8.toNat (List.getD t (Int.toNat i) (0 : UInt8))) : Int) ∧ (↑(UInt8.toNat (List.getD t (Int.toNat i) (0 : UInt8))) : Int) < (256 : Int),
                        0 = 0, List.length (decL encByte [] ++ [UInt8.ofNat (Int.toNat (↑(UInt8.toNat (List.getD t (Int.toNat i) (0 : UInt8))) : Int))]) = 1]
                      (T.need
                        [0 = 0, List.length (encs encStr L) = List.length L * 1, List.length L + 1 ≤ 9223372036854775807,
                          (List.length L + 1) * 16 ≤ 140737488355328]
                        (T.done
                          (Ex.normal,
                            St.mk
                              (mkTm 86
                                [(0, V.ptr 0 0), (1, V.str t), (5, V.sl 1 0 (List.length L + 1) false), (6, V.dsl 0 true []),
                                  (7, V.int IntKind.i64 (IntKind.wrap IntKind.i64 (i + (1 : Int))))])
                              [gB b0 (Prod.fst y6), some ([V.sld (encs encStr L ++ [V.str (decL encByte [] ++ [UInt8.ofNat (Int.toNat (↑(UInt8.toNat (List.getD t (Int.toNat i) (0 : UInt8))) : Int))])])], 9)]
                              [0])))
                  else
                    T.done
                      (Ex.normal,
                        St.mk
                          (mkTm 86
                            [(0, V.ptr 0 0), (1, V.str t), (5, V.sl 1 0 (List.length L) bo), (6, V.sl 2 0 1 false),
                              (7, V.int IntKind.i64 (IntKind.wrap IntKind.i64 (i + (1 : Int))))])
                          [gB b0 (Prod.fst y6), strB L, some ([V.sld [V.int IntKind.u8 (↑(UInt8.toNat (List.getD t (Int.toNat i) (0 : UInt8))) : Int)]], 5)] [0]))))
    else
      T.done
        (Ex.exit 0,
          St.mk (mkTm 86 [(0, V.ptr 0 0), (1, V.str t), (5, V.sl 1 0 (List.length L) bo), (6, V.dsl 0 true [])]) [gB b0 g, strB L]
            [0])
  else
    T.done
      (Ex.exit 0,
        St.mk (mkTm 86 [(0, V.ptr 0 0), (1, V.str t), (5, V.sl 1 0 (List.length L) bo), (6, V.dsl 0 true [])]) [gB b0 g, strB L] [0]) := by kernel_rfl

/-- The loop's state with its flags: is the beginning nil, are the two slices full. -/
structure IX where
  s : Fr.IS
  nb : Bool
  bo : Bool
  bb : Bool
def IX.step (x : IX) (b : UInt8) : IX :=
  if x.s.g.closed then x
  else if x.s.g.depth == 0 && Fr.blank b.toNat then ⟨Fr.iStep x.s b, x.nb, x.bo, x.bb⟩
  else if x.s.g.depth == 0 && (b.toNat : Int) != 123 && (b.toNat : Int) != 91 then ⟨Fr.iStep x.s b, x.nb, x.bo, x.bb⟩
  else if (Fr.inText x.s.g b.toNat (decide (3000 < (x.s.buf.length : Int) + 1))).2 then ⟨Fr.iStep x.s b, true, false, x.bb⟩
  else ⟨Fr.iStep x.s b, false, x.bo, false⟩
theorem IX.step_s (x : IX) (b : UInt8) : (x.step b).s = Fr.iStep x.s b := by
  unfold IX.step
  split
  · rename_i h; unfold Fr.iStep; rw [if_pos h]
  · split
    · rfl
    · split
      · rfl
      · split <;> rfl
def stI (b0 t : List UInt8) (x : IX) (i : Int) : St := match x.nb with
  | true => stN b0 t x.s.g x.s.out i x.bo
  | false => stG b0 t x.s.g x.s.buf x.s.out i x.bo x.bb

theorem stepG (b0 t : List UInt8) (g : Fr.G) (buf : List UInt8) (L : List (List UInt8)) (bo bb : Bool) (i : Nat) (hi : i < t.length) (ht : t.length ≤ 1048576) (hc : g.closed = false) (hd : -1000 ≤ g.depth ∧ g.depth ≤ 1000) (hb : buf.length ≤ 100000) (hL : L.length ≤ 2000000) {S : St}
    (hS : LoopTo Tryz.prog 1 (lp Tryz.prog fIFeed 0) (stI b0 t (IX.step ⟨⟨g, buf, L⟩, false, bo, bb⟩ (t.getD i 0)) ((i + 1 : Nat) : Int)) (.exit 0) S) : LoopTo Tryz.prog 1 (lp Tryz.prog fIFeed 0) (stG b0 t g buf L i bo bb) (.exit 0) S := by
  refine loopT (E := EIF) follows named (ifeedG b0 t g buf L i bo bb) ?_
  have hn : 0 ≤ ((t.getD i 0).toNat : Int) ∧ ((t.getD i 0).toNat : Int) < 256 := by
    have := (t.getD i 0).toNat_lt; omega
  have hlo := layByte.length buf
  have hlL := layStr.length L
  simp only [WP_cond, T.WP, All, decide_eq_true_eq, decide_eq_false_iff_not, and_true, beq_iff_eq, beq_eq_false_iff_ne, ne_eq, Int.toNat_natCast, UInt8.ofNat_toNat, wrap_succ (show i < 9223372036854775807 by omega), layByte.decL, byts_encs]
  generalize t.getD i 0 = b at *
  obtain ⟨d, q, k, c⟩ := g
  simp only at hc hd; subst hc; simp only
  have e1 : d = 0 → Fr.blank b.toNat = true → IX.step ⟨⟨⟨d, q, k, false⟩, buf, L⟩, false, bo, bb⟩ b = ⟨⟨⟨d, q, k, false⟩, buf, L⟩, false, bo, bb⟩ := by
    intro a1 a2; simp [IX.step, Fr.iStep, a1, a2]
  have e2 : d = 0 → Fr.blank b.toNat = false → ¬ (b.toNat : Int) = 123 → ¬ (b.toNat : Int) = 91 → IX.step ⟨⟨⟨d, q, k, false⟩, buf, L⟩, false, bo, bb⟩ b = ⟨⟨⟨d, q, k, true⟩, buf, L⟩, false, bo, bb⟩ := by
    intro a1 a2 a3 a4; simp [IX.step, Fr.iStep, a1, a2, a3, a4]
  have e3 : (d = 0 → Fr.blank b.toNat = false ∧ ((b.toNat : Int) = 123 ∨ (b.toNat : Int) = 91)) → (Fr.inText ⟨d, q, k, false⟩ b.toNat (decide (3000 < (buf.length : Int) + 1))).2 = true → IX.step ⟨⟨⟨d, q, k, false⟩, buf, L⟩, false, bo, bb⟩ b = ⟨⟨(Fr.inText ⟨d, q, k, false⟩ b.toNat (decide (3000 < (buf.length : Int) + 1))).1, [], L ++ [buf ++ [b]]⟩, true, false, bb⟩ := by
    intro a1 a2
    have n1 : ¬ (d = 0 ∧ Fr.blank b.toNat = true) := by rintro ⟨r, l⟩; simp [(a1 r).1] at l
    have n2 : ¬ ((d = 0 ∧ ¬ (b.toNat : Int) = 123) ∧ ¬ (b.toNat : Int) = 91) := by rintro ⟨⟨u, l⟩, m⟩; rcases (a1 u).2 with r | r <;> contradiction
    simp only [IX.step, Fr.iStep, Bool.false_eq_true, if_false, Bool.and_eq_true, beq_iff_eq, bne_iff_ne, ne_eq, if_neg n1, if_neg n2, a2, if_true]
  have e4 : (d = 0 → Fr.blank b.toNat = false ∧ ((b.toNat : Int) = 123 ∨ (b.toNat : Int) = 91)) → (Fr.inText ⟨d, q, k, false⟩ b.toNat (decide (3000 < (buf.length : Int) + 1))).2 = false → IX.step ⟨⟨⟨d, q, k, false⟩, buf, L⟩, false, bo, bb⟩ b = ⟨⟨(Fr.inText ⟨d, q, k, false⟩ b.toNat (decide (3000 < (buf.length : Int) + 1))).1, buf ++ [b], L⟩, false, bo, false⟩ := by
    intro a1 a2
    have n1 : ¬ (d = 0 ∧ Fr.blank b.toNat = true) := by rintro ⟨r, l⟩; simp [(a1 r).1] at l
    have n2 : ¬ ((d = 0 ∧ ¬ (b.toNat : Int) = 123) ∧ ¬ (b.toNat : Int) = 91) := by rintro ⟨⟨u, l⟩, m⟩; rcases (a1 u).2 with r | r <;> contradiction
    simp only [IX.step, Fr.iStep, Bool.false_eq_true, if_false, Bool.and_eq_true, beq_iff_eq, bne_iff_ne, ne_eq, if_neg n1, if_neg n2, a2]
  simp only [bne_iff_ne, ne_eq, bne_eq_false_iff_eq, gt_iff_lt, Bool.not_false, true_implies, show ((buf.length + 1 : Nat) : Int) = (buf.length : Int) + 1 by omega]
  repeat' with_reducible first
    | intro h
    | apply And.intro
  all_goals first
    | omega
    | trivial
    | rfl
    | (simp only [List.length_append, List.length_cons, List.length_nil]; done)
    | (simp only [List.length_append, List.length_cons, List.length_nil]; omega)
    | (subst_vars; exact blank_ok _)
    | (subst_vars; exact inText_ok _ _ _ _ hn hd)
    | (subst_vars; rw [e1 (by first | rfl | assumption | (apply Eq.symm; assumption)) (by first | rfl | assumption | (apply Eq.symm; assumption))] at hS; exact hS)
    | (subst_vars; rw [e2 (by first | rfl | assumption | (apply Eq.symm; assumption)) (by first | rfl | assumption | (apply Eq.symm; assumption)) (by first | rfl | assumption | (apply Eq.symm; assumption)) (by first | rfl | assumption | (apply Eq.symm; assumption))] at hS; exact hS)
    | (subst_vars; rw [e3 (by intro z; first | exact absurd z (by assumption) | exact ⟨(by first | rfl | assumption | (apply Eq.symm; assumption)), by first | exact .inl (by assumption) | exact .inr (by assumption)⟩) (by first | rfl | assumption | (apply Eq.symm; assumption))] at hS; simp [stI, stN, gB, strB, encs_append, encs_one, encStr] at hS ⊢; exact hS)
    | (subst_vars; rw [e4 (by intro z; first | exact absurd z (by assumption) | exact ⟨(by first | rfl | assumption | (apply Eq.symm; assumption)), by first | exact .inl (by assumption) | exact .inr (by assumption)⟩) (by first | rfl | assumption | (apply Eq.symm; assumption))] at hS; simp [stI, stG, gB, strB, bytB, encs_append, encs_one, encByte] at hS ⊢; exact hS)
    | (exfalso; simp_all; done)
    | skip

end Go.Proofs.YtjgancippgpdhaaGreatDoor

namespace Go.Proofs.YtjgancippgpdhaaGreatDoor
open Go.RowKit
set_option maxRecDepth 100000

theorem stepN (b0 t : List UInt8) (g : Fr.G) (L : List (List UInt8)) (bo bb : Bool) (i : Nat) (hi : i < t.length) (ht : t.length ≤ 1048576) (hc : g.closed = false) (hd : -1000 ≤ g.depth ∧ g.depth ≤ 1000) (hL : L.length ≤ 2000000) {S : St}
    (hS : LoopTo Tryz.prog 1 (lp Tryz.prog fIFeed 0) (stI b0 t (IX.step ⟨⟨g, [], L⟩, true, bo, bb⟩ (t.getD i 0)) ((i + 1 : Nat) : Int)) (.exit 0) S) : LoopTo Tryz.prog 1 (lp Tryz.prog fIFeed 0) (stN b0 t g L i bo) (.exit 0) S := by
  refine loopT (E := EIF) follows named (ifeedN b0 t g L i bo) ?_
  have hn : 0 ≤ ((t.getD i 0).toNat : Int) ∧ ((t.getD i 0).toNat : Int) < 256 := by
    have := (t.getD i 0).toNat_lt; omega
  have hlL := layStr.length L
  simp only [WP_cond, T.WP, All, decide_eq_true_eq, decide_eq_false_iff_not, and_true, beq_iff_eq, beq_eq_false_iff_ne, ne_eq, Int.toNat_natCast, UInt8.ofNat_toNat, wrap_succ (show i < 9223372036854775807 by omega), show decL encByte [] = [] from layByte.decL [], List.nil_append]
  generalize t.getD i 0 = b at *
  obtain ⟨d, q, k, c⟩ := g
  simp only at hc hd; subst hc; simp only
  have e1 : d = 0 → Fr.blank b.toNat = true → IX.step ⟨⟨⟨d, q, k, false⟩, [], L⟩, true, bo, bb⟩ b = ⟨⟨⟨d, q, k, false⟩, [], L⟩, true, bo, bb⟩ := by
    intro a1 a2; simp [IX.step, Fr.iStep, a1, a2]
  have e2 : d = 0 → Fr.blank b.toNat = false → ¬ (b.toNat : Int) = 123 → ¬ (b.toNat : Int) = 91 → IX.step ⟨⟨⟨d, q, k, false⟩, [], L⟩, true, bo, bb⟩ b = ⟨⟨⟨d, q, k, true⟩, [], L⟩, true, bo, bb⟩ := by
    intro a1 a2 a3 a4; simp [IX.step, Fr.iStep, a1, a2, a3, a4]
  have e3 : (d = 0 → Fr.blank b.toNat = false ∧ ((b.toNat : Int) = 123 ∨ (b.toNat : Int) = 91)) → (Fr.inText ⟨d, q, k, false⟩ b.toNat false).2 = true → IX.step ⟨⟨⟨d, q, k, false⟩, [], L⟩, true, bo, bb⟩ b = ⟨⟨(Fr.inText ⟨d, q, k, false⟩ b.toNat false).1, [], L ++ [[b]]⟩, true, false, bb⟩ := by
    intro a1 a2
    have n1 : ¬ (d = 0 ∧ Fr.blank b.toNat = true) := by rintro ⟨r, l⟩; simp [(a1 r).1] at l
    have n2 : ¬ ((d = 0 ∧ ¬ (b.toNat : Int) = 123) ∧ ¬ (b.toNat : Int) = 91) := by rintro ⟨⟨u, l⟩, m⟩; rcases (a1 u).2 with r | r <;> contradiction
    simp only [IX.step, Fr.iStep, Bool.false_eq_true, if_false, Bool.and_eq_true, beq_iff_eq, bne_iff_ne, ne_eq, if_neg n1, if_neg n2, a2, if_true, List.length_nil, show decide ((3000 : Int) < ((0 : Nat) : Int) + 1) = false from rfl, List.nil_append]
  have e4 : (d = 0 → Fr.blank b.toNat = false ∧ ((b.toNat : Int) = 123 ∨ (b.toNat : Int) = 91)) → (Fr.inText ⟨d, q, k, false⟩ b.toNat false).2 = false → IX.step ⟨⟨⟨d, q, k, false⟩, [], L⟩, true, bo, bb⟩ b = ⟨⟨(Fr.inText ⟨d, q, k, false⟩ b.toNat false).1, [b], L⟩, false, bo, false⟩ := by
    intro a1 a2
    have n1 : ¬ (d = 0 ∧ Fr.blank b.toNat = true) := by rintro ⟨r, l⟩; simp [(a1 r).1] at l
    have n2 : ¬ ((d = 0 ∧ ¬ (b.toNat : Int) = 123) ∧ ¬ (b.toNat : Int) = 91) := by rintro ⟨⟨u, l⟩, m⟩; rcases (a1 u).2 with r | r <;> contradiction
    simp only [IX.step, Fr.iStep, Bool.false_eq_true, if_false, Bool.and_eq_true, beq_iff_eq, bne_iff_ne, ne_eq, if_neg n1, if_neg n2, a2, if_false, Bool.false_eq_true, List.length_nil, show decide ((3000 : Int) < ((0 : Nat) : Int) + 1) = false from rfl, List.nil_append]
  simp only [bne_iff_ne, ne_eq, bne_eq_false_iff_eq, Bool.not_false, true_implies]
  repeat' with_reducible first
    | intro h
    | apply And.intro
  all_goals first
    | omega
    | trivial
    | rfl
    | (simp only [List.length_append, List.length_cons, List.length_nil]; done)
    | (simp only [List.length_append, List.length_cons, List.length_nil]; omega)
    | (subst_vars; exact blank_ok _)
    | (subst_vars; exact inText_ok _ _ _ _ hn hd)
    | (subst_vars; rw [e1 (by first | rfl | assumption | (apply Eq.symm; assumption)) (by first | rfl | assumption | (apply Eq.symm; assumption))] at hS; exact hS)
    | (subst_vars; rw [e2 (by first | rfl | assumption | (apply Eq.symm; assumption)) (by first | rfl | assumption | (apply Eq.symm; assumption)) (by first | rfl | assumption | (apply Eq.symm; assumption)) (by first | rfl | assumption | (apply Eq.symm; assumption))] at hS; exact hS)
    | (subst_vars; rw [e3 (by intro z; first | exact absurd z (by assumption) | exact ⟨(by first | rfl | assumption | (apply Eq.symm; assumption)), by first | exact .inl (by assumption) | exact .inr (by assumption)⟩) (by first | rfl | assumption | (apply Eq.symm; assumption))] at hS; simp [stI, stN, gB, strB, encs_append, encs_one, encStr] at hS ⊢; exact hS)
    | (subst_vars; rw [e4 (by intro z; first | exact absurd z (by assumption) | exact ⟨(by first | rfl | assumption | (apply Eq.symm; assumption)), by first | exact .inl (by assumption) | exact .inr (by assumption)⟩) (by first | rfl | assumption | (apply Eq.symm; assumption))] at hS; simp [stI, stG, gB, strB, bytB, encs_one, encByte] at hS ⊢; exact hS)
    | (exfalso; simp_all; done)
    | skip

def stIE (b0 t : List UInt8) (x : IX) : St := match x.nb with
  | true => ⟨mkTm 86 [(0, .ptr 0 0), (1, .str t), (5, .sl 1 0 x.s.out.length x.bo), (6, .dsl 0 true [])], [gB b0 x.s.g, strB x.s.out], [0]⟩
  | false => ⟨mkTm 86 [(0, .ptr 0 0), (1, .str t), (5, .sl 1 0 x.s.out.length x.bo), (6, .sl 2 0 x.s.buf.length x.bb)], [gB b0 x.s.g, strB x.s.out, bytB x.s.buf], [0]⟩

theorem ifeed_end (b0 t : List UInt8) (x : IX) (i : Nat) (hx : x.nb = true → x.s.buf = []) (h : i < t.length → x.s.g.closed = true) : LoopTo Tryz.prog 1 (lp Tryz.prog fIFeed 0) (stI b0 t x i) (.exit 0) (stIE b0 t x) := by
  obtain ⟨⟨g, buf, out⟩, nb, bo, bb⟩ := x
  simp only at hx h
  cases nb
  · refine loopT (E := EIF) follows named (ifeedG b0 t g buf out i bo bb) ?_
    simp only [WP_cond, T.WP, All, decide_eq_true_eq, decide_eq_false_iff_not, and_true, beq_iff_eq, beq_eq_false_iff_ne, ne_eq]
    refine ⟨fun h1 => ⟨fun h2 => ?_, fun h2 => ⟨rfl, rfl⟩⟩, fun h1 => ⟨rfl, rfl⟩⟩
    rw [h (by omega)] at h2; cases h2
  · refine loopT (E := EIF) follows named (ifeedN b0 t g out i bo) ?_
    simp only [WP_cond, T.WP, All, decide_eq_true_eq, decide_eq_false_iff_not, and_true, beq_iff_eq, beq_eq_false_iff_ne, ne_eq]
    refine ⟨fun h1 => ⟨fun h2 => ?_, fun h2 => ⟨rfl, rfl⟩⟩, fun h1 => ⟨rfl, rfl⟩⟩
    rw [h (by omega)] at h2; cases h2

theorem IX.step_nb (x : IX) (b : UInt8) (h : x.nb = true → x.s.buf = []) : (x.step b).nb = true → (x.step b).s.buf = [] := by
  unfold IX.step Fr.iStep
  split
  · exact h
  · split
    · exact h
    · split
      · exact h
      · split
        · intro; rfl
        · intro k; cases k
theorem iStep_out (s : Fr.IS) (b : UInt8) : (Fr.iStep s b).out.length ≤ s.out.length + 1 := by
  unfold Fr.iStep
  repeat' split
  all_goals simp
theorem IX.fold_closed (t : List UInt8) (x : IX) (h : x.s.g.closed = true) : t.foldl IX.step x = x := by
  induction t with
  | nil => rfl
  | cons b t ih => rw [List.foldl_cons, show x.step b = x by unfold IX.step; rw [if_pos h]]; exact ih
theorem IX.fold_s (t : List UInt8) (x : IX) : (t.foldl IX.step x).s = t.foldl Fr.iStep x.s := by
  induction t generalizing x with
  | nil => rfl
  | cons b t ih => rw [List.foldl_cons, List.foldl_cons, ih, IX.step_s]

theorem ifeed_loop (b0 t : List UInt8) (ht : t.length ≤ 1048576) : ∀ (m i : Nat) (x : IX), x.s.ok → (x.nb = true → x.s.buf = []) → i + m = t.length → x.s.out.length ≤ i →
    LoopTo Tryz.prog 1 (lp Tryz.prog fIFeed 0) (stI b0 t x i) (.exit 0) (stIE b0 t ((t.drop i).foldl IX.step x))
  | 0, i, x, hs, hx, h1, h2 => by
    rw [List.drop_of_length_le (by omega)]
    exact ifeed_end b0 t x i hx (fun h => by omega)
  | m + 1, i, x, hs, hx, h1, h2 => by
    by_cases hc : x.s.g.closed = true
    · rw [IX.fold_closed _ _ hc]
      exact ifeed_end b0 t x i hx (fun _ => hc)
    have hc : x.s.g.closed = false := by simpa using hc
    have hd : t.drop i = t.getD i 0 :: t.drop (i + 1) := by
      rw [List.drop_eq_getElem_cons (by omega), List.getD_eq_getElem?_getD, List.getElem?_eq_getElem (by omega)]; rfl
    have hk := (Fr.step_alike x.s (t.getD i 0) hs).1
    have ho := iStep_out x.s (t.getD i 0)
    rw [← IX.step_s] at hk ho
    have ih := ifeed_loop b0 t ht m (i + 1) (x.step (t.getD i 0)) hk (x.step_nb _ hx) (by omega) (by omega)
    rw [hd, List.foldl_cons]
    rcases hs with hs | ⟨k1, k2, k3, -, -⟩
    · rw [hc] at hs; cases hs
    obtain ⟨⟨g, buf, out⟩, nb, bo, bb⟩ := x
    simp only at *
    cases nb
    · exact stepG b0 t g buf out bo bb i (by omega) ht hc (by omega) (by omega) (by omega) ih
    · have := hx rfl
      subst this
      exact stepN b0 t g out bo bb i (by omega) ht hc (by omega) (by omega) ih

noncomputable def lsIF : Nat → St → Option LRes := fun id s => match id, s.hp, s.tm.get 1, s.tm.get 5, s.tm.get 6 with
  | 0, some ([.str buf, .int _ d, .bool q, .bool k, .bool c], _) :: _, .str t, .sl _ _ _ bo, .sl _ _ _ bb => some ⟨t.foldl IX.step ⟨⟨⟨d, q, k, c⟩, buf, []⟩, false, bo, bb⟩, fun y => .two { keep := [0, 1, 5, 6, 7], wr := [0] } (stG buf t ⟨d, q, k, c⟩ buf [] 0 bo bb) y.nb (.exit 0) (stIE buf t ⟨y.s, true, y.bo, y.bb⟩) (.exit 0) (stIE buf t ⟨y.s, false, y.bo, y.bb⟩)⟩
  | _, _, _, _, _ => none
noncomputable def EIfd : Env := { P := Tryz.prog, vw := vwA, res := resIF, ls := lsIF }

set_option maxRecDepth 100000 in
theorem ifdT (buf : List UInt8) (g : Fr.G) (t : List UInt8) : fnT EIfd 0 fIFeed [.ptr 0 0, .str t] [gB buf g] =
  T.need [List.length buf ≤ 9223372036854775807]
    (T.bind (List.foldl IX.step (IX.mk (Fr.IS.mk (Fr.G.mk (Fr.G.depth g) (Fr.G.quote g) (Fr.G.skip g) (Fr.G.closed g)) buf []) false true false) t) fun y0 =>
      T.need
        [St.mk
              (mkTm 86
                [(0, V.ptr 0 0), (1, V.str t), (5, V.sl 1 0 0 true), (6, V.sl 2 0 (List.length buf) false),
                  (7, V.int IntKind.i64 (0 : Int))])
              [some ([V.str buf, V.int IntKind.i64 (Fr.G.depth g), V.bool (Fr.G.quote g), V.bool (Fr.G.skip g), V.bool (Fr.G.closed g)], 31), some ([V.sld []], 9), some ([V.sld (byts buf)], 5)]
              [0] =
            St.mk
              (mkTm 86
                [(0, V.ptr 0 0), (1, V.str t), (5, V.sl 1 0 0 true), (6, V.sl 2 0 (List.length buf) false),
                  (7, V.int IntKind.i64 (0 : Int))])
              [some
                  ([V.str buf, V.int IntKind.i64 (Fr.G.depth (Fr.G.mk (Fr.G.depth g) (Fr.G.quote g) (Fr.G.skip g) (Fr.G.closed g))),
                      V.bool (Fr.G.quote (Fr.G.mk (Fr.G.depth g) (Fr.G.quote g) (Fr.G.skip g) (Fr.G.closed g))), V.bool (Fr.G.skip (Fr.G.mk (Fr.G.depth g) (Fr.G.quote g) (Fr.G.skip g) (Fr.G.closed g))),
                      V.bool (Fr.G.closed (Fr.G.mk (Fr.G.depth g) (Fr.G.quote g) (Fr.G.skip g) (Fr.G.closed g)))],
                    31),
                some ([V.sld []], 9), some ([V.sld (encs encByte buf)], 5)]
              [0]]
        (bif IX.nb y0 then
          T.need
            [SoundC (Env.P EIfd) 1 (blk Tryz.prog fIFeed 0)
                (St.mk
                  (mkTm 86
                    [(0, V.ptr 0 0), (1, V.str t), (5, V.sl 1 0 0 true), (6, V.sl 2 0 (List.length buf) false),
                      (7, V.int IntKind.i64 (0 : Int))])
                  [some
                      ([V.str buf, V.int IntKind.i64 (Fr.G.depth (Fr.G.mk (Fr.G.depth g) (Fr.G.quote g) (Fr.G.skip g) (Fr.G.closed g))),
                          V.bool (Fr.G.quote (Fr.G.mk (Fr.G.depth g) (Fr.G.quote g) (Fr.G.skip g) (Fr.G.closed g))), V.bool (Fr.G.skip (Fr.G.mk (Fr.G.depth g) (Fr.G.quote g) (Fr.G.skip g) (Fr.G.closed g))),
                          V.bool (Fr.G.closed (Fr.G.mk (Fr.G.depth g) (Fr.G.quote g) (Fr.G.skip g) (Fr.G.closed g)))],
                        31),
                    some ([V.sld []], 9), some ([V.sld (encs encByte buf)], 5)]
                  [0])
                (Ex.exit 0)
                (St.mk
                  (mkTm 86
                    [(0, V.ptr 0 0), (1, V.str t),
                      (5, V.sl 1 0 (List.length (Fr.IS.out (IX.s (IX.mk (IX.s y0) true (IX.bo y0) (IX.bb y0))))) (IX.bo (IX.mk (IX.s y0) true (IX.bo y0) (IX.bb y0)))),
                      (6, V.dsl 0 true [])])
                  [some
                      ([V.str buf, V.int IntKind.i64 (Fr.G.depth (Fr.IS.g (IX.s (IX.mk (IX.s y0) true (IX.bo y0) (IX.bb y0))))), V.bool (Fr.G.quote (Fr.IS.g (IX.s (IX.mk (IX.s y0) true (IX.bo y0) (IX.bb y0))))),
                          V.bool (Fr.G.skip (Fr.IS.g (IX.s (IX.mk (IX.s y0) true (IX.bo y0) (IX.bb y0))))), V.bool (Fr.G.closed (Fr.IS.g (IX.s (IX.mk (IX.s y0) true (IX.bo y0) (IX.bb y0)))))],
                        31),
                    some ([V.sld (encs encStr (Fr.IS.out (IX.s (IX.mk (IX.s y0) true (IX.bo y0) (IX.bb y0)))))], 9)]
                  [0])]
            (T.need [[] = byts (decL encByte []), List.length (decL encByte []) = 0]
              (bif Fr.G.closed (Fr.IS.g (IX.s (IX.mk (IX.s y0) true (IX.bo y0) (IX.bb y0)))) then
                T.done
                  (Ret.mk (V.dsl (List.length (Fr.IS.out (IX.s (IX.mk (IX.s y0) true (IX.bo y0) (IX.bb y0))))) false (encs encStr (Fr.IS.out (IX.s (IX.mk (IX.s y0) true (IX.bo y0) (IX.bb y0))))))
                    [some ([V.str [], V.int IntKind.i64 (0 : Int), V.bool false, V.bool false, V.bool true], 31)] [0])
              else
                T.done
                  (Ret.mk (V.dsl (List.length (Fr.IS.out (IX.s (IX.mk (IX.s y0) true (IX.bo y0) (IX.bb y0))))) false (encs encStr (Fr.IS.out (IX.s (IX.mk (IX.s y0) true (IX.bo y0) (IX.bb y0))))))
                    [some
                        ([V.str (decL encByte []), V.int IntKind.i64 (Fr.G.depth (Fr.IS.g (IX.s (IX.mk (IX.s y0) true (IX.bo y0) (IX.bb y0))))),
                            V.bool (Fr.G.quote (Fr.IS.g (IX.s (IX.mk (IX.s y0) true (IX.bo y0) (IX.bb y0))))), V.bool (Fr.G.skip (Fr.IS.g (IX.s (IX.mk (IX.s y0) true (IX.bo y0) (IX.bb y0))))),
                            V.bool (Fr.G.closed (Fr.IS.g (IX.s (IX.mk (IX.s y0) true (IX.bo y0) (IX.bb y0)))))],
                          31)]
                    [0])))
        else
          T.need
            [SoundC (Env.P EIfd) 1 (blk Tryz.prog fIFeed 0)
                (St.mk
                  (mkTm 86
                    [(0, V.ptr 0 0), (1, V.str t), (5, V.sl 1 0 0 true), (6, V.sl 2 0 (List.length buf) false),
                      (7, V.int IntKind.i64 (0 : Int))])
                  [some
                      ([V.str buf, V.int IntKind.i64 (Fr.G.depth (Fr.G.mk (Fr.G.depth g) (Fr.G.quote g) (Fr.G.skip g) (Fr.G.closed g))),
                          V.bool (Fr.G.quote (Fr.G.mk (Fr.G.depth g) (Fr.G.quote g) (Fr.G.skip g) (Fr.G.closed g))), V.bool (Fr.G.skip (Fr.G.mk (Fr.G.depth g) (Fr.G.quote g) (Fr.G.skip g) (Fr.G.closed g))),
                          V.bool (Fr.G.closed (Fr.G.mk (Fr.G.depth g) (Fr.G.quote g) (Fr.G.skip g) (Fr.G.closed g)))],
                        31),
                    some ([V.sld []], 9), some ([V.sld (encs encByte buf)], 5)]
                  [0])
                (Ex.exit 0)
                (St.mk
                  (mkTm 86
                    [(0, V.ptr 0 0), (1, V.str t),
                      (5, V.sl 1 0 (List.length (Fr.IS.out (IX.s (IX.mk (IX.s y0) false (IX.bo y0) (IX.bb y0))))) (IX.bo (IX.mk (IX.s y0) false (IX.bo y0) (IX.bb y0)))),
                      (6, V.sl 2 0 (List.length (Fr.IS.buf (IX.s (IX.mk (IX.s y0) false (IX.bo y0) (IX.bb y0))))) (IX.bb (IX.mk (IX.s y0) false (IX.bo y0) (IX.bb y0))))])
                  [some
                      ([V.str buf, V.int IntKind.i64 (Fr.G.depth (Fr.IS.g (IX.s (IX.mk (IX.s y0) false (IX.bo y0) (IX.bb y0))))), V.bool (Fr.G.quote (Fr.IS.g (IX.s (IX.mk (IX.s y0) false (IX.bo y0) (IX.bb y0))))),
                          V.bool (Fr.G.skip (Fr.IS.g (IX.s (IX.mk (IX.s y0) false (IX.bo y0) (IX.bb y0))))), V.bool (Fr.G.closed (Fr.IS.g (IX.s (IX.mk (IX.s y0) false (IX.bo y0) (IX.bb y0)))))],
                        31),
                    some ([V.sld (encs encStr (Fr.IS.out (IX.s (IX.mk (IX.s y0) false (IX.bo y0) (IX.bb y0)))))], 9),
                    some ([V.sld (encs encByte (Fr.IS.buf (IX.s (IX.mk (IX.s y0) false (IX.bo y0) (IX.bb y0)))))], 5)]
                  [0])]
            (T.need
              [encs encByte (Fr.IS.buf (IX.s (IX.mk (IX.s y0) false (IX.bo y0) (IX.bb y0)))) = byts (decL encByte (encs encByte (Fr.IS.buf (IX.s (IX.mk (IX.s y0) false (IX.bo y0) (IX.bb y0)))))), 0 = 0,
                List.length (decL encByte (encs encByte (Fr.IS.buf (IX.s (IX.mk (IX.s y0) false (IX.bo y0) (IX.bb y0))))) ++ []) = List.length (Fr.IS.buf (IX.s (IX.mk (IX.s y0) false (IX.bo y0) (IX.bb y0))))]
              (bif Fr.G.closed (Fr.IS.g (IX.s (IX.mk (IX.s y0) false (IX.bo y0) (IX.bb y0)))) then
                T.done
                  (Ret.mk (V.dsl (List.length (Fr.IS.out (IX.s (IX.mk (IX.s y0) false (IX.bo y0) (IX.bb y0))))) false (encs encStr (Fr.IS.out (IX.s (IX.mk (IX.s y0) false (IX.bo y0) (IX.bb y0))))))
                    [some ([V.str [], V.int IntKind.i64 (0 : Int), V.bool false, V.bool false, V.bool true], 31)] [0])
              else
                T.done
                  (Ret.mk (V.dsl (List.length (Fr.IS.out (IX.s (IX.mk (IX.s y0) false (IX.bo y0) (IX.bb y0))))) false (encs encStr (Fr.IS.out (IX.s (IX.mk (IX.s y0) false (IX.bo y0) (IX.bb y0))))))
                    [some
                        ([V.str (decL encByte (encs encByte (Fr.IS.buf (IX.s (IX.mk (IX.s y0) false (IX.bo y0) (IX.bb y0))))) ++ []),
                            V.int IntKind.i64 (Fr.G.depth (Fr.IS.g (IX.s (IX.mk (IX.s y0) false (IX.bo y0) (IX.bb y0))))), V.bool (Fr.G.quote (Fr.IS.g (IX.s (IX.mk (IX.s y0) false (IX.bo y0) (IX.bb y0))))),
                            V.bool (Fr.G.skip (Fr.IS.g (IX.s (IX.mk (IX.s y0) false (IX.bo y0) (IX.bb y0))))), V.bool (Fr.G.closed (Fr.IS.g (IX.s (IX.mk (IX.s y0) false (IX.bo y0) (IX.bb y0)))))],
                          31)]
                    [0]))))) := (T.force_eq _).symm.trans (by kernel_rfl)

def gF (f : Fr.F) : Option Blk := gB f.buf ⟨f.depth, f.quote, f.skip, f.closed⟩
theorem IX.fold_nb (t : List UInt8) (x : IX) (h : x.nb = true → x.s.buf = []) : (t.foldl IX.step x).nb = true → (t.foldl IX.step x).s.buf = [] := by
  induction t generalizing x with
  | nil => exact h
  | cons b t ih => rw [List.foldl_cons]; exact ih _ (x.step_nb b h)
theorem byts_nil : ([] : List V) = byts (decL encByte []) := by
  rw [show decL encByte [] = [] from layByte.decL []]; rfl
/-- The program's feed. -/
theorem ifeed_ok (f : Fr.F) (hf : f.ok) (hb : f.buf.length ≤ 100000) (t : List UInt8) (ht : t.length ≤ 1048576) : FnOK Tryz.prog fIFeed [.ptr 0 0, .str t] [gF f] ⟨sls encStr (Fr.iFeed f t).out, [gF (Fr.iFeed f t).done], [0]⟩ := by
  generalize hx : t.foldl IX.step ⟨⟨⟨f.depth, f.quote, f.skip, f.closed⟩, f.buf, []⟩, false, true, false⟩ = x
  have h0 := ifeed_loop f.buf t ht t.length 0 ⟨⟨⟨f.depth, f.quote, f.skip, f.closed⟩, f.buf, []⟩, false, true, false⟩ hf (by intro h; cases h) (by omega) (by simp)
  have hnb := IX.fold_nb t ⟨⟨⟨f.depth, f.quote, f.skip, f.closed⟩, f.buf, []⟩, false, true, false⟩ (by intro h; cases h)
  rw [List.drop_zero, hx] at h0
  rw [hx] at hnb
  have hs : Fr.iFeed f t = x.s := by rw [← hx, IX.fold_s]; rfl
  have hlo := layByte.length x.s.buf
  rw [hs]
  refine fnOK_TL (E := EIfd) follows named (ifdT f.buf _ t) (by simp) ?_
  simp only [WP_cond, T.WP, All, and_true]
  refine ⟨by omega, ?_⟩
  rintro y rfl
  simp only [hx]
  obtain ⟨⟨⟨d, q, k, c⟩, buf, out⟩, nb, bo, bb⟩ := x
  simp only at hnb hlo ⊢
  refine ⟨by rw [byts_encs], fun hy => ?_, fun hy => ?_⟩
  · subst hy
    have := hnb rfl
    subst this
    refine ⟨.loopTo h0, ⟨byts_nil, by rw [show decL encByte [] = [] from layByte.decL []]; rfl⟩, fun hc => ?_, fun hc => ?_⟩
    · subst hc; exact ⟨rfl, rfl, by simp⟩
    · subst hc
      rw [show decL encByte [] = [] from layByte.decL []]
      exact ⟨rfl, rfl, by simp⟩
  · subst hy
    refine ⟨.loopTo h0, ⟨by rw [layByte.decL, byts_encs], trivial, by rw [layByte.decL, List.append_nil]⟩, fun hc => ?_, fun hc => ?_⟩
    · subst hc; exact ⟨rfl, rfl, by simp⟩
    · subst hc
      rw [layByte.decL, List.append_nil]
      exact ⟨rfl, rfl, by simp⟩

end Go.Proofs.YtjgancippgpdhaaGreatDoor

namespace Go.Proofs.YtjgancippgpdhaaGreatDoor
open Go.RowKit
set_option maxRecDepth 100000

theorem GF.bufb {f : Fr.F} (h : GF f) : f.buf.length ≤ 100000 := by
  rcases h.1 with hc | hc
  · rw [h.2 hc]; simp [Fr.F.shut]
  · omega
theorem ifeedS_ok {f : Fr.F} (h : GF f) (t : List UInt8) (ht : t.length ≤ 1048576) : FnOK Tryz.prog fIFeed [.ptr 0 0, .str t] [gF f] ⟨sls encStr (Fr.sFeed f t).out, [gF (Fr.sFeed f t).f], [0]⟩ := by
  rw [(Fr.feed_alike f t h.1 h.2).1]
  exact ifeed_ok f h.1 h.bufb t ht

abbrev fIsText : Nat := 32
abbrev fIsList : Nat := 29
abbrev fIFeedAll : Nat := 9
set_option maxRecDepth 100000 in
theorem isTextT (t : List UInt8) : fnT E0 0 fIsText [.str t] [] =
  T.done (Ret.mk (V.bool (decide ((↑(List.length t) : Int) ≤ (65536 : Int)))) [] []) := (T.force_eq _).symm.trans (by kernel_rfl)
set_option maxRecDepth 100000 in
theorem isListT (W : List (List UInt8)) : fnT E0 0 fIsList [sls encStr W] [] =
  T.done (Ret.mk (V.bool (decide ((↑(List.length W) : Int) ≤ (4096 : Int)))) [] []) := (T.force_eq _).symm.trans (by kernel_rfl)
theorem isText_ok (t : List UInt8) : FnOK Tryz.prog fIsText [.str t] [] ⟨.bool (decide (t.length ≤ 65536)), [], []⟩ := by
  refine fnOK_TL (E := E0) follows named (isTextT t) (by simp) ?_
  simp only [T.WP]
  refine ⟨?_, rfl, by simp⟩
  show V.bool _ = V.bool _
  exact congrArg V.bool (decide_eq_decide.2 (by omega))
theorem isList_ok (W : List (List UInt8)) : FnOK Tryz.prog fIsList [sls encStr W] [] ⟨.bool (decide (W.length ≤ 4096)), [], []⟩ := by
  refine fnOK_TL (E := E0) follows named (isListT W) (by simp) ?_
  simp only [T.WP]
  refine ⟨?_, rfl, by simp⟩
  show V.bool _ = V.bool _
  exact congrArg V.bool (decide_eq_decide.2 (by omega))

theorem F.beq (f g : Fr.F) : (f == g) = (f.buf == g.buf && (f.depth == g.depth && (f.quote == g.quote && (f.skip == g.skip && (f.closed == g.closed && true))))) := by
  obtain ⟨b, d, q, k, c⟩ := f
  obtain ⟨b', d', q', k', c'⟩ := g
  rw [Bool.eq_iff_iff]
  simp
noncomputable def resIM : ResT := fun f vs hp => match vs, hp with
  | [.str t], [] => bif Nat.beq f fIsText then some ⟨decide (t.length ≤ 65536), fun y => ⟨.bool y, [], []⟩⟩ else none
  | [.dsl n _ _], [] => bif Nat.beq f fIsList then some ⟨decide (n ≤ 4096), fun y => ⟨.bool y, [], []⟩⟩ else none
  | [.ptr 0 0, .str t], [some ([.str buf, .int _ d, .bool q, .bool k, .bool c], _)] => bif Nat.beq f fIFeed then some ⟨Fr.sFeed ⟨buf, d, q, k, c⟩ t, fun y => ⟨sls encStr y.out, [gF y.f], [0]⟩⟩ else none
  | _, _ => none
noncomputable def EIM : Env := { P := Tryz.prog, vw := vwA, res := resIM }

end Go.Proofs.YtjgancippgpdhaaGreatDoor

namespace Go.Proofs.YtjgancippgpdhaaGreatDoor
open Go.RowKit
set_option maxRecDepth 100000

def stB (W : List (List UInt8)) (x : Fr.SS) (i : Int) (b : Bool) : St := ⟨mkTm 28 [(0, sls encStr W), (2, .ptr 0 0), (3, .dsl 0 true []), (4, .int .i64 0), (5, .ptr 1 0), (6, .sl 2 0 x.out.length b), (15, sls encStr W), (16, .int .i64 W.length), (17, .int .i64 i)], [gF Fr.F.zero, gF x.f, strB x.out], []⟩
def nfB : Ex → Kp := fun _ => { keep := [0, 2, 3, 4, 5, 6, 15, 16, 17] }

--FOLD gF strB
set_option maxRecDepth 100000 in
theorem iallT (W : List (List UInt8)) (x : Fr.SS) (i : Int) (b : Bool) : bodyT EIM 0 nfB (lp Tryz.prog fIFeedAll 0) (stB W x i b) =
  bif decide (i < (↑(List.length W) : Int)) then
    T.need [(0 : Int) ≤ i ∧ i < (↑(List.length W) : Int), List.take 1 (List.drop (Int.toNat i * 1) (encs encStr W)) = [V.str (List.getD (decL encStr (encs encStr W)) (Int.toNat i) [])]]
      (T.bind
        (Fr.sFeed
          (Fr.F.mk (Fr.F.buf (Fr.SS.f x)) (Fr.G.depth (Fr.G.mk (Fr.F.depth (Fr.SS.f x)) (Fr.F.quote (Fr.SS.f x)) (Fr.F.skip (Fr.SS.f x)) (Fr.F.closed (Fr.SS.f x))))
            (Fr.G.quote (Fr.G.mk (Fr.F.depth (Fr.SS.f x)) (Fr.F.quote (Fr.SS.f x)) (Fr.F.skip (Fr.SS.f x)) (Fr.F.closed (Fr.SS.f x))))
            (Fr.G.skip (Fr.G.mk (Fr.F.depth (Fr.SS.f x)) (Fr.F.quote (Fr.SS.f x)) (Fr.F.skip (Fr.SS.f x)) (Fr.F.closed (Fr.SS.f x))))
            (Fr.G.closed (Fr.G.mk (Fr.F.depth (Fr.SS.f x)) (Fr.F.quote (Fr.SS.f x)) (Fr.F.skip (Fr.SS.f x)) (Fr.F.closed (Fr.SS.f x)))))
          (List.getD (decL encStr (encs encStr W)) (Int.toNat i) []))
        fun y0 =>
        T.need
          [FnOK (Env.P EIM) 30 [V.ptr 0 0, V.str (List.getD (decL encStr (encs encStr W)) (Int.toNat i) [])]
              [some
                  ([V.str (Fr.F.buf (Fr.SS.f x)), V.int IntKind.i64 (Fr.G.depth (Fr.G.mk (Fr.F.depth (Fr.SS.f x)) (Fr.F.quote (Fr.SS.f x)) (Fr.F.skip (Fr.SS.f x)) (Fr.F.closed (Fr.SS.f x)))),
                      V.bool (Fr.G.quote (Fr.G.mk (Fr.F.depth (Fr.SS.f x)) (Fr.F.quote (Fr.SS.f x)) (Fr.F.skip (Fr.SS.f x)) (Fr.F.closed (Fr.SS.f x)))),
                      V.bool (Fr.G.skip (Fr.G.mk (Fr.F.depth (Fr.SS.f x)) (Fr.F.quote (Fr.SS.f x)) (Fr.F.skip (Fr.SS.f x)) (Fr.F.closed (Fr.SS.f x)))),
                      V.bool (Fr.G.closed (Fr.G.mk (Fr.F.depth (Fr.SS.f x)) (Fr.F.quote (Fr.SS.f x)) (Fr.F.skip (Fr.SS.f x)) (Fr.F.closed (Fr.SS.f x))))],
                    31)]
              (Ret.mk (V.dsl (List.length (Fr.SS.out y0)) false (encs encStr (Fr.SS.out y0)))
                [some
                    ([V.str (Fr.F.buf (Fr.SS.f y0)), V.int IntKind.i64 (Fr.G.depth (Fr.G.mk (Fr.F.depth (Fr.SS.f y0)) (Fr.F.quote (Fr.SS.f y0)) (Fr.F.skip (Fr.SS.f y0)) (Fr.F.closed (Fr.SS.f y0)))),
                        V.bool (Fr.G.quote (Fr.G.mk (Fr.F.depth (Fr.SS.f y0)) (Fr.F.quote (Fr.SS.f y0)) (Fr.F.skip (Fr.SS.f y0)) (Fr.F.closed (Fr.SS.f y0)))),
                        V.bool (Fr.G.skip (Fr.G.mk (Fr.F.depth (Fr.SS.f y0)) (Fr.F.quote (Fr.SS.f y0)) (Fr.F.skip (Fr.SS.f y0)) (Fr.F.closed (Fr.SS.f y0)))),
                        V.bool (Fr.G.closed (Fr.G.mk (Fr.F.depth (Fr.SS.f y0)) (Fr.F.quote (Fr.SS.f y0)) (Fr.F.skip (Fr.SS.f y0)) (Fr.F.closed (Fr.SS.f y0))))],
                      31)]
                [0])]
          (T.need
            [List.length (encs encStr (Fr.SS.out y0)) = List.length (Fr.SS.out y0) * 1, List.all (encs encStr (Fr.SS.out y0)) V.one = true, 0 = 0,
              List.length (encs encStr (Fr.SS.out x)) = List.length (Fr.SS.out x) * 1, List.length (Fr.SS.out x) + List.length (Fr.SS.out y0) ≤ 9223372036854775807,
              (List.length (Fr.SS.out x) + List.length (Fr.SS.out y0)) * 16 ≤ 140737488355328]
            (T.done
              (Ex.normal,
                St.mk
                  (mkTm 28
                    [(0, V.dsl (List.length W) false (encs encStr W)), (2, V.ptr 0 0), (3, V.dsl 0 true []), (4, V.int IntKind.i64 (0 : Int)),
                      (5, V.ptr 1 0), (6, V.sl 2 0 (List.length (Fr.SS.out x) + List.length (Fr.SS.out y0)) false), (15, V.dsl (List.length W) false (encs encStr W)),
                      (16, V.int IntKind.i64 (↑(List.length W) : Int)), (17, V.int IntKind.i64 (IntKind.wrap IntKind.i64 (i + (1 : Int))))])
                  [some ([V.str [], V.int IntKind.i64 (0 : Int), V.bool false, V.bool false, V.bool false], 31),
                    some
                      ([V.str (Fr.F.buf (Fr.SS.f y0)), V.int IntKind.i64 (Fr.G.depth (Fr.G.mk (Fr.F.depth (Fr.SS.f y0)) (Fr.F.quote (Fr.SS.f y0)) (Fr.F.skip (Fr.SS.f y0)) (Fr.F.closed (Fr.SS.f y0)))),
                          V.bool (Fr.G.quote (Fr.G.mk (Fr.F.depth (Fr.SS.f y0)) (Fr.F.quote (Fr.SS.f y0)) (Fr.F.skip (Fr.SS.f y0)) (Fr.F.closed (Fr.SS.f y0)))),
                          V.bool (Fr.G.skip (Fr.G.mk (Fr.F.depth (Fr.SS.f y0)) (Fr.F.quote (Fr.SS.f y0)) (Fr.F.skip (Fr.SS.f y0)) (Fr.F.closed (Fr.SS.f y0)))),
                          V.bool (Fr.G.closed (Fr.G.mk (Fr.F.depth (Fr.SS.f y0)) (Fr.F.quote (Fr.SS.f y0)) (Fr.F.skip (Fr.SS.f y0)) (Fr.F.closed (Fr.SS.f y0))))],
                        31),
                    some ([V.sld (encs encStr (Fr.SS.out x) ++ encs encStr (Fr.SS.out y0))], 9)]
                  []))))
  else
    T.done
      (Ex.exit 0,
        St.mk
          (mkTm 28
            [(0, V.dsl (List.length W) false (encs encStr W)), (2, V.ptr 0 0), (3, V.dsl 0 true []), (4, V.int IntKind.i64 (0 : Int)),
              (5, V.ptr 1 0), (6, V.sl 2 0 (List.length (Fr.SS.out x)) b), (15, V.dsl (List.length W) false (encs encStr W)),
              (16, V.int IntKind.i64 (↑(List.length W) : Int)), (17, V.int IntKind.i64 i)])
          [some ([V.str [], V.int IntKind.i64 (0 : Int), V.bool false, V.bool false, V.bool false], 31),
            some
              ([V.str (Fr.F.buf (Fr.SS.f x)), V.int IntKind.i64 (Fr.G.depth (Fr.G.mk (Fr.F.depth (Fr.SS.f x)) (Fr.F.quote (Fr.SS.f x)) (Fr.F.skip (Fr.SS.f x)) (Fr.F.closed (Fr.SS.f x)))),
                  V.bool (Fr.G.quote (Fr.G.mk (Fr.F.depth (Fr.SS.f x)) (Fr.F.quote (Fr.SS.f x)) (Fr.F.skip (Fr.SS.f x)) (Fr.F.closed (Fr.SS.f x)))),
                  V.bool (Fr.G.skip (Fr.G.mk (Fr.F.depth (Fr.SS.f x)) (Fr.F.quote (Fr.SS.f x)) (Fr.F.skip (Fr.SS.f x)) (Fr.F.closed (Fr.SS.f x)))),
                  V.bool (Fr.G.closed (Fr.G.mk (Fr.F.depth (Fr.SS.f x)) (Fr.F.quote (Fr.SS.f x)) (Fr.F.skip (Fr.SS.f x)) (Fr.F.closed (Fr.SS.f x))))],
                31),
            strB (Fr.SS.out x)]
          []) := by kernel_rfl

theorem iall_loop (W : List (List UInt8)) (hW : ∀ t ∈ W, t.length ≤ 1048576) (hl : W.length ≤ 4096) : ∀ (m i : Nat) (x : Fr.SS) (b : Bool), GF x.f → i + m = W.length → x.out.length + m * 1048576 ≤ 4294967296 →
    LoopTo Tryz.prog 0 (lp Tryz.prog fIFeedAll 0) (stB W x i b) (.exit 0) (stB W (sAll (W.drop i) x) W.length (b && i == W.length))
  | 0, i, x, b, hx, h1, h2 => by
    refine loopT (E := EIM) follows named (iallT W x i b) ?_
    simp only [WP_cond, T.WP, All, decide_eq_true_eq, decide_eq_false_iff_not, and_true]
    obtain rfl : i = W.length := h1
    refine ⟨fun h => by omega, fun _ => ⟨rfl, ?_⟩⟩
    rw [List.drop_length]
    simp only [sAll, beq_self_eq_true, Bool.and_true]; rfl
  | m + 1, i, x, b, hx, h1, h2 => by
    refine loopT (E := EIM) follows named (iallT W x i b) ?_
    have hd : W.drop i = W.getD i [] :: W.drop (i + 1) := by
      rw [List.drop_eq_getElem_cons (by omega), List.getD_eq_getElem?_getD, List.getElem?_eq_getElem (by omega)]; rfl
    have ht : (W.getD i []).length ≤ 1048576 := by
      rw [List.getD_eq_getElem?_getD, List.getElem?_eq_getElem (by omega)]
      exact hW _ (List.getElem_mem _)
    have hat := layStr.at W [] i 1 (by omega) rfl
    simp only [WP_cond, T.WP, All, decide_eq_true_eq, decide_eq_false_iff_not, and_true, Int.toNat_natCast, layStr.decL, wrap_succ (show i < 9223372036854775807 by omega)]
    refine ⟨fun _ => ⟨⟨by omega, hat⟩, ?_⟩, fun h => by omega⟩
    generalize W.getD i [] = t at *
    have ho := sFeed_out x.f t
    rw [show (b && i == W.length) = false by rw [beq_eq_false_iff_ne.2 (by omega)]; simp]
    rintro y rfl
    refine ⟨ifeedS_ok hx t ht, ⟨layStr.length _, layStr.all _, trivial, layStr.length _, ?_, ?_⟩, ?_⟩
    · show x.out.length + (Fr.sFeed x.f t).out.length ≤ _
      omega
    · show (x.out.length + (Fr.sFeed x.f t).out.length) * 16 ≤ _
      omega
    · have ih := iall_loop W hW hl m (i + 1) ⟨(Fr.sFeed x.f t).f, x.out ++ (Fr.sFeed x.f t).out⟩ false (hx.feed t) (by omega) (by simp only [List.length_append]; omega)
      rw [hd, sAll]
      simp only [stB, List.length_append, strB, encs_append, Bool.false_and] at ih
      exact ih

noncomputable def lsIAll : Nat → St → Option LRes := fun id s => match id, s.tm.get 0 with
  | 0, .dsl _ _ cs => some ⟨sAll (decL encStr cs) ⟨Fr.F.zero, []⟩, fun y => .one { keep := [0, 2, 3, 4, 5, 6, 15, 16, 17] } (stB (decL encStr cs) ⟨Fr.F.zero, []⟩ 0 true) (.exit 0) (stB (decL encStr cs) y (decL encStr cs).length (true && 0 == (decL encStr cs).length))⟩
  | _, _ => none
noncomputable def EIA : Env := { P := Tryz.prog, vw := vwA, res := resIM, ls := lsIAll }
set_option maxRecDepth 100000 in
theorem iAllT (W : List (List UInt8)) : fnT EIA 0 fIFeedAll [sls encStr W] [] =
  T.bind (decide (List.length W ≤ 4096)) fun y0 =>
    T.need [FnOK (Env.P EIA) 29 [V.dsl (List.length W) false (encs encStr W)] [] (Ret.mk (V.bool y0) [] [])]
      (bif !y0 then T.done (Ret.mk (V.tup [V.agg [V.str [], V.int IntKind.i64 (0 : Int), V.bool false, V.bool false, V.bool false], V.dsl 0 false [], V.int IntKind.i64 (2 : Int)]) [] [])
      else
        T.bind (sAll (decL encStr (encs encStr W)) (Fr.SS.mk (Fr.F.mk [] (0 : Int) false false false) [])) fun y1 =>
          T.need
            [St.mk
                  (mkTm 28
                    [(0, V.dsl (List.length W) false (encs encStr W)), (2, V.ptr 0 0), (3, V.dsl 0 true []), (4, V.int IntKind.i64 (0 : Int)),
                      (5, V.ptr 1 0), (6, V.sl 2 0 0 true), (15, V.dsl (List.length W) false (encs encStr W)),
                      (16, V.int IntKind.i64 (↑(List.length W) : Int)), (17, V.int IntKind.i64 (0 : Int))])
                  [some ([V.str [], V.int IntKind.i64 (0 : Int), V.bool false, V.bool false, V.bool false], 31), some ([V.str [], V.int IntKind.i64 (0 : Int), V.bool false, V.bool false, V.bool false], 31),
                    some ([V.sld []], 9)]
                  [] =
                St.mk
                  (mkTm 28
                    [(0, V.dsl (List.length (decL encStr (encs encStr W))) false (encs encStr (decL encStr (encs encStr W)))), (2, V.ptr 0 0), (3, V.dsl 0 true []),
                      (4, V.int IntKind.i64 (0 : Int)), (5, V.ptr 1 0), (6, V.sl 2 0 0 true),
                      (15, V.dsl (List.length (decL encStr (encs encStr W))) false (encs encStr (decL encStr (encs encStr W)))), (16, V.int IntKind.i64 (↑(List.length (decL encStr (encs encStr W))) : Int)),
                      (17, V.int IntKind.i64 (0 : Int))])
                  [some ([V.str [], V.int IntKind.i64 (0 : Int), V.bool false, V.bool false, V.bool false], 31), some ([V.str [], V.int IntKind.i64 (0 : Int), V.bool false, V.bool false, V.bool false], 31),
                    some ([V.sld []], 9)]
                  [],
              SoundC (Env.P EIA) 0 (blk Tryz.prog fIFeedAll 0)
                (St.mk
                  (mkTm 28
                    [(0, V.dsl (List.length (decL encStr (encs encStr W))) false (encs encStr (decL encStr (encs encStr W)))), (2, V.ptr 0 0), (3, V.dsl 0 true []),
                      (4, V.int IntKind.i64 (0 : Int)), (5, V.ptr 1 0), (6, V.sl 2 0 0 true),
                      (15, V.dsl (List.length (decL encStr (encs encStr W))) false (encs encStr (decL encStr (encs encStr W)))), (16, V.int IntKind.i64 (↑(List.length (decL encStr (encs encStr W))) : Int)),
                      (17, V.int IntKind.i64 (0 : Int))])
                  [some ([V.str [], V.int IntKind.i64 (0 : Int), V.bool false, V.bool false, V.bool false], 31), some ([V.str [], V.int IntKind.i64 (0 : Int), V.bool false, V.bool false, V.bool false], 31),
                    some ([V.sld []], 9)]
                  [])
                (Ex.exit 0)
                (St.mk
                  (mkTm 28
                    [(0, V.dsl (List.length (decL encStr (encs encStr W))) false (encs encStr (decL encStr (encs encStr W)))), (2, V.ptr 0 0), (3, V.dsl 0 true []),
                      (4, V.int IntKind.i64 (0 : Int)), (5, V.ptr 1 0),
                      (6, V.sl 2 0 (List.length (Fr.SS.out y1)) (true && 0 == List.length (decL encStr (encs encStr W)))),
                      (15, V.dsl (List.length (decL encStr (encs encStr W))) false (encs encStr (decL encStr (encs encStr W)))), (16, V.int IntKind.i64 (↑(List.length (decL encStr (encs encStr W))) : Int)),
                      (17, V.int IntKind.i64 (↑(List.length (decL encStr (encs encStr W))) : Int))])
                  [some ([V.str [], V.int IntKind.i64 (0 : Int), V.bool false, V.bool false, V.bool false], 31),
                    some
                      ([V.str (Fr.F.buf (Fr.SS.f y1)), V.int IntKind.i64 (Fr.G.depth (Fr.G.mk (Fr.F.depth (Fr.SS.f y1)) (Fr.F.quote (Fr.SS.f y1)) (Fr.F.skip (Fr.SS.f y1)) (Fr.F.closed (Fr.SS.f y1)))),
                          V.bool (Fr.G.quote (Fr.G.mk (Fr.F.depth (Fr.SS.f y1)) (Fr.F.quote (Fr.SS.f y1)) (Fr.F.skip (Fr.SS.f y1)) (Fr.F.closed (Fr.SS.f y1)))),
                          V.bool (Fr.G.skip (Fr.G.mk (Fr.F.depth (Fr.SS.f y1)) (Fr.F.quote (Fr.SS.f y1)) (Fr.F.skip (Fr.SS.f y1)) (Fr.F.closed (Fr.SS.f y1)))),
                          V.bool (Fr.G.closed (Fr.G.mk (Fr.F.depth (Fr.SS.f y1)) (Fr.F.quote (Fr.SS.f y1)) (Fr.F.skip (Fr.SS.f y1)) (Fr.F.closed (Fr.SS.f y1))))],
                        31),
                    strB (Fr.SS.out y1)]
                  [])]
            (T.done
              (Ret.mk
                (V.tup
                  [V.agg
                      [V.str (Fr.F.buf (Fr.SS.f y1)), V.int IntKind.i64 (Fr.G.depth (Fr.G.mk (Fr.F.depth (Fr.SS.f y1)) (Fr.F.quote (Fr.SS.f y1)) (Fr.F.skip (Fr.SS.f y1)) (Fr.F.closed (Fr.SS.f y1)))),
                        V.bool (Fr.G.quote (Fr.G.mk (Fr.F.depth (Fr.SS.f y1)) (Fr.F.quote (Fr.SS.f y1)) (Fr.F.skip (Fr.SS.f y1)) (Fr.F.closed (Fr.SS.f y1)))),
                        V.bool (Fr.G.skip (Fr.G.mk (Fr.F.depth (Fr.SS.f y1)) (Fr.F.quote (Fr.SS.f y1)) (Fr.F.skip (Fr.SS.f y1)) (Fr.F.closed (Fr.SS.f y1)))),
                        V.bool (Fr.G.closed (Fr.G.mk (Fr.F.depth (Fr.SS.f y1)) (Fr.F.quote (Fr.SS.f y1)) (Fr.F.skip (Fr.SS.f y1)) (Fr.F.closed (Fr.SS.f y1))))],
                    V.dsl (List.length (Fr.SS.out y1)) false (encs encStr (Fr.SS.out y1)), V.int IntKind.i64 (0 : Int)])
                [] []))) := (T.force_eq _).symm.trans (by kernel_rfl)

theorem iAll_ok (W : List (List UInt8)) (hW : ∀ t ∈ W, t.length ≤ 1048576) (hl : W.length ≤ 4096) : FnOK Tryz.prog fIFeedAll [sls encStr W] [] ⟨.tup [.agg (vwF (sAll W ⟨Fr.F.zero, []⟩).f), sls encStr (sAll W ⟨Fr.F.zero, []⟩).out, .int .i64 0], [], []⟩ := by
  refine fnOK_TL (E := EIA) follows named (iAllT W) (by simp) ?_
  simp only [WP_cond, T.WP, All, and_true, layStr.decL]
  have h0 := iall_loop W hW hl W.length 0 ⟨Fr.F.zero, []⟩ true GF.zero (by omega) (by simp; omega)
  rw [List.drop_zero] at h0
  rintro y rfl
  refine ⟨isList_ok W, fun h => ?_, fun _ => ?_⟩
  · simp [hl] at h
  rintro y rfl
  exact ⟨⟨trivial, .loopTo h0⟩, ⟨rfl, rfl, by simp⟩⟩

end Go.Proofs.YtjgancippgpdhaaGreatDoor

namespace Go.Proofs.YtjgancippgpdhaaGreatDoor
open Go.RowKit
set_option maxRecDepth 100000

abbrev fAt : Nat := 19
abbrev fSame : Nat := 10
set_option maxRecDepth 100000 in
theorem atT (l : List UInt8) (i n : Int) : fnT E0 0 fAt [sls encByte l, .int .i64 i, .int .i64 n] [] =
  bif decide (n ≤ (1 : Int)) then T.done (Ret.mk (V.int IntKind.i64 (0 : Int)) [] [])
  else
    bif (↑(List.length l) : Int) == (0 : Int) then T.need [n ≠ (0 : Int)] (T.done (Ret.mk (V.int IntKind.i64 (Int.tmod (IntKind.wrap IntKind.i64 (i * (7 : Int))) n)) [] []))
    else
      T.need [(↑(List.length l) : Int) ≠ (0 : Int)]
        (T.need
          [(0 : Int) ≤ Int.tmod i (↑(List.length l) : Int) ∧ Int.tmod i (↑(List.length l) : Int) < (↑(List.length l) : Int),
            List.take 1 (List.drop (Int.toNat (Int.tmod i (↑(List.length l) : Int)) * 1) (encs encByte l)) =
              [V.int IntKind.u8 (↑(UInt8.toNat (List.getD (decL encByte (encs encByte l)) (Int.toNat (Int.tmod i (↑(List.length l) : Int))) (0 : UInt8))) : Int)]]
          (T.need [(↑(List.length l) : Int) ≠ (0 : Int)]
            (T.need
              [(0 : Int) ≤ Int.tmod (IntKind.wrap IntKind.i64 (i + (1 : Int))) (↑(List.length l) : Int) ∧ Int.tmod (IntKind.wrap IntKind.i64 (i + (1 : Int))) (↑(List.length l) : Int) < (↑(List.length l) : Int),
                List.take 1 (List.drop (Int.toNat (Int.tmod (IntKind.wrap IntKind.i64 (i + (1 : Int))) (↑(List.length l) : Int)) * 1) (encs encByte l)) =
                  [V.int IntKind.u8 (↑(UInt8.toNat (List.getD (decL encByte (encs encByte l)) (Int.toNat (Int.tmod (IntKind.wrap IntKind.i64 (i + (1 : Int))) (↑(List.length l) : Int))) (0 : UInt8))) : Int)]]
              (T.need [(↑(List.length l) : Int) ≠ (0 : Int)]
                (T.need [n ≠ (0 : Int)]
                  (T.done
                    (Ret.mk
                      (V.int IntKind.i64
                        (Int.tmod
                          (IntKind.wrap IntKind.i64
                            (IntKind.wrap IntKind.i64
                                (IntKind.wrap IntKind.i64
                                    (IntKind.wrap IntKind.i64 (↑(UInt8.toNat (List.getD (decL encByte (encs encByte l)) (Int.toNat (Int.tmod i (↑(List.length l) : Int))) (0 : UInt8))) : Int) * (31 : Int)) +
                                  IntKind.wrap IntKind.i64
                                    (↑(UInt8.toNat (List.getD (decL encByte (encs encByte l)) (Int.toNat (Int.tmod (IntKind.wrap IntKind.i64 (i + (1 : Int))) (↑(List.length l) : Int))) (0 : UInt8))) : Int)) +
                              IntKind.wrap IntKind.i64 (Int.tdiv i (↑(List.length l) : Int))))
                          n))
                      [] []))))))) := by kernel_rfl
noncomputable def stS2 (A B : List (List UInt8)) (i : Int) : St := ⟨mkTm 26 [(0, sls encStr A), (1, sls encStr B), (4, .bool false), (5, .int .i64 i)], [], []⟩
def nfS2 : Ex → Kp := fun ex => match ex with
  | .ret => { keep := [4] }
  | _ => { keep := [0, 1, 4, 5] }
set_option maxRecDepth 100000 in
theorem same1T (A B : List (List UInt8)) (i : Int) : bodyT E0 0 nfS2 (lp Tryz.prog fSame 0) (stS2 A B i) =
  bif decide (i < (↑(List.length A) : Int)) then
    T.need [(0 : Int) ≤ i ∧ i < (↑(List.length A) : Int), List.take 1 (List.drop (Int.toNat i * 1) (encs encStr A)) = [V.str (List.getD (decL encStr (encs encStr A)) (Int.toNat i) [])]]
      (T.need [(0 : Int) ≤ i ∧ i < (↑(List.length B) : Int), List.take 1 (List.drop (Int.toNat i * 1) (encs encStr B)) = [V.str (List.getD (decL encStr (encs encStr B)) (Int.toNat i) [])]]
        (bif !List.getD (decL encStr (encs encStr A)) (Int.toNat i) [] == List.getD (decL encStr (encs encStr B)) (Int.toNat i) [] then T.done (Ex.ret, St.mk (mkTm 26 [(4, V.bool false)]) [] [])
        else
          T.done
            (Ex.normal,
              St.mk
                (mkTm 26
                  [(0, V.dsl (List.length A) false (encs encStr A)), (1, V.dsl (List.length B) false (encs encStr B)), (4, V.bool false),
                    (5, V.int IntKind.i64 (IntKind.wrap IntKind.i64 (i + (1 : Int))))])
                [] [])))
  else
    T.done
      (Ex.exit 0,
        St.mk (mkTm 26 [(0, V.dsl (List.length A) false (encs encStr A)), (1, V.dsl (List.length B) false (encs encStr B)), (4, V.bool false), (5, V.int IntKind.i64 i)]) [] []) := by kernel_rfl

def atN (l : List UInt8) (i : Nat) : Nat := if l.length = 0 then i * 7 else (l.getD (i % l.length) 0).toNat * 31 + (l.getD ((i + 1) % l.length) 0).toNat + i / l.length
def atF (l : List UInt8) (i : Nat) (n : Int) : Int := if n ≤ 1 then 0 else ((atN l i % n.toNat : Nat) : Int)
theorem atF_bd (l : List UInt8) (i : Nat) {n : Int} (h : 1 ≤ n) : 0 ≤ atF l i n ∧ atF l i n < n := by
  unfold atF
  split
  · omega
  · have := Nat.mod_lt (atN l i) (show 0 < n.toNat by omega)
    omega
theorem atN_bd (l : List UInt8) (i : Nat) (hi : i ≤ 1000) : atN l i ≤ 100000 := by
  unfold atN
  split
  · omega
  · have h1 := (l.getD (i % l.length) 0).toNat_lt
    have h2 := (l.getD ((i + 1) % l.length) 0).toNat_lt
    have h3 := Nat.div_le_self i l.length
    omega
theorem tmodN (a : Nat) {n : Int} (h : 1 ≤ n) : (a : Int).tmod n = ((a % n.toNat : Nat) : Int) := by
  have : n = ((n.toNat : Nat) : Int) := by omega
  rw [this, Int.ofNat_tmod]; simp
theorem at_ok (l : List UInt8) (i : Nat) (hi : i ≤ 1000) (n : Int) (hn : 1 ≤ n) : FnOK Tryz.prog fAt [sls encByte l, .int .i64 i, .int .i64 n] [] ⟨.int .i64 (atF l i n), [], []⟩ := by
  refine fnOK_TL (E := E0) follows named (atT l i n) (by simp) ?_
  have hb := atN_bd l i hi
  simp only [WP_cond, T.WP, All, decide_eq_true_eq, decide_eq_false_iff_not, and_true, beq_iff_eq, beq_eq_false_iff_ne, ne_eq, layByte.decL]
  refine ⟨fun h => ⟨?_, rfl, by simp⟩, fun h => ⟨fun h0 => ⟨by omega, ?_, rfl, by simp⟩, fun h0 => ?_⟩⟩
  · show V.int _ _ = V.int _ _
    rw [atF, if_pos h]
  · show V.int _ _ = V.int _ _
    have h0' : l.length = 0 := by omega
    rw [atF, if_neg h, atN, if_pos h0', wrap_id (by omega), show (i : Int) * 7 = ((i * 7 : Nat) : Int) by omega, tmodN _ hn]
  · have h0' : ¬ l.length = 0 := by omega
    have m1 := Nat.mod_lt i (show 0 < l.length by omega)
    have m2 := Nat.mod_lt (i + 1) (show 0 < l.length by omega)
    have a1 := layByte.at l 0 (i % l.length) 1 m1 rfl
    have a2 := layByte.at l 0 ((i + 1) % l.length) 1 m2 rfl
    have c1 := (l.getD (i % l.length) 0).toNat_lt
    have c2 := (l.getD ((i + 1) % l.length) 0).toNat_lt
    have c3 := Nat.div_le_self i l.length
    rw [wrap_id (show -9223372036854775808 ≤ (i : Int) + 1 ∧ (i : Int) + 1 ≤ 9223372036854775807 by omega), show (i : Int) + 1 = ((i + 1 : Nat) : Int) by omega, ← Int.ofNat_tmod, ← Int.ofNat_tmod, ← Int.ofNat_tdiv]
    simp only [Int.toNat_natCast]
    refine ⟨h0, ⟨by omega, a1⟩, h0, ⟨by omega, a2⟩, h0, by omega, ?_, rfl, by simp⟩
    show V.int _ _ = V.int _ _
    rw [atF, if_neg h, atN, if_neg h0']
    generalize (l.getD (i % l.length) 0).toNat = u at *
    generalize (l.getD ((i + 1) % l.length) 0).toNat = v at *
    generalize i / l.length = w at *
    rw [wrap_id (n := (u : Int)) (by omega), wrap_id (n := (v : Int)) (by omega), wrap_id (n := (w : Int)) (by omega), wrap_id (n := (u : Int) * 31) (by omega), wrap_id (n := (u : Int) * 31 + v) (by omega), wrap_id (n := (u : Int) * 31 + v + w) (by omega), ← tmodN _ hn]
    congr 1

theorem same_end (A : List (List UInt8)) (i : Nat) (h : A.length ≤ i) : LoopTo Tryz.prog 0 (lp Tryz.prog fSame 0) (stS2 A A i) (.exit 0) (stS2 A A i) := by
  refine loopT (E := E0) follows named (same1T A A i) ?_
  simp only [WP_cond, T.WP, All, decide_eq_true_eq, decide_eq_false_iff_not, and_true]
  exact ⟨fun h => by omega, fun _ => ⟨rfl, rfl⟩⟩
theorem same_loop (A : List (List UInt8)) (hl : A.length ≤ 4294967296) : ∀ (m i : Nat), i + m = A.length → LoopTo Tryz.prog 0 (lp Tryz.prog fSame 0) (stS2 A A i) (.exit 0) (stS2 A A A.length)
  | 0, i, h => by
    obtain rfl : i = A.length := h
    exact same_end A _ (Nat.le_refl _)
  | m + 1, i, h => by
    refine loopT (E := E0) follows named (same1T A A i) ?_
    have hat := layStr.at A [] i 1 (by omega) rfl
    simp only [WP_cond, T.WP, All, decide_eq_true_eq, decide_eq_false_iff_not, and_true, Int.toNat_natCast, layStr.decL, wrap_succ (show i < 9223372036854775807 by omega)]
    refine ⟨fun _ => ⟨⟨by omega, hat⟩, ⟨by omega, hat⟩, fun h => ?_, fun _ => ?_⟩, fun h => by omega⟩
    · simp at h
    · exact same_loop A hl m (i + 1) (by omega)

noncomputable def lsSame : Nat → St → Option LRes := fun id s => match id, s.tm.get 0, s.tm.get 1 with
  | 0, .dsl _ _ cs, .dsl _ _ ds => some ⟨(), fun _ => .one { keep := [0, 1, 4, 5] } (stS2 (decL encStr cs) (decL encStr ds) 0) (.exit 0) (stS2 (decL encStr cs) (decL encStr ds) (decL encStr cs).length)⟩
  | _, _, _ => none
set_option maxRecDepth 100000 in
theorem sameT (A B : List (List UInt8)) : fnT { P := Tryz.prog, vw := vwA, res := res0, ls := lsSame } 0 fSame [sls encStr A, sls encStr B] [] =
  bif (↑(List.length A) : Int) != (↑(List.length B) : Int) then T.done (Ret.mk (V.bool false) [] [])
  else
    T.bind PUnit.unit fun _ =>
      T.need
        [St.mk (mkTm 26 [(0, V.dsl (List.length A) false (encs encStr A)), (1, V.dsl (List.length B) false (encs encStr B)), (4, V.bool false), (5, V.int IntKind.i64 (0 : Int))]) []
              [] =
            St.mk
              (mkTm 26
                [(0, V.dsl (List.length (decL encStr (encs encStr A))) false (encs encStr (decL encStr (encs encStr A)))),
                  (1, V.dsl (List.length (decL encStr (encs encStr B))) false (encs encStr (decL encStr (encs encStr B)))), (4, V.bool false), (5, V.int IntKind.i64 (0 : Int))])
              [] [],
          SoundC (Env.P (Env.mk Tryz.prog vwA res0 lsSame [] [] fun _ _ _ _ _ => none)) 0 (blk Tryz.prog fSame 0)
            (St.mk
              (mkTm 26
                [(0, V.dsl (List.length (decL encStr (encs encStr A))) false (encs encStr (decL encStr (encs encStr A)))),
                  (1, V.dsl (List.length (decL encStr (encs encStr B))) false (encs encStr (decL encStr (encs encStr B)))), (4, V.bool false), (5, V.int IntKind.i64 (0 : Int))])
              [] [])
            (Ex.exit 0)
            (St.mk
              (mkTm 26
                [(0, V.dsl (List.length (decL encStr (encs encStr A))) false (encs encStr (decL encStr (encs encStr A)))),
                  (1, V.dsl (List.length (decL encStr (encs encStr B))) false (encs encStr (decL encStr (encs encStr B)))), (4, V.bool false),
                  (5, V.int IntKind.i64 (↑(List.length (decL encStr (encs encStr A))) : Int))])
              [] [])]
        (T.done (Ret.mk (V.bool true) [] [])) := by kernel_rfl
theorem same_ok (A : List (List UInt8)) (hl : A.length ≤ 4294967296) : FnOK Tryz.prog fSame [sls encStr A, sls encStr A] [] ⟨.bool true, [], []⟩ := by
  refine fnOK_TL (E := { P := Tryz.prog, vw := vwA, res := res0, ls := lsSame }) follows named (sameT A A) (by simp) ?_
  simp only [WP_cond, T.WP, All, and_true, layStr.decL]
  refine ⟨fun h => by simp at h, fun _ => ?_⟩
  intro y _
  exact ⟨⟨trivial, .loopTo (same_loop A hl A.length 0 (by omega))⟩, ⟨rfl, rfl, by simp⟩⟩

end Go.Proofs.YtjgancippgpdhaaGreatDoor

namespace Go.Proofs.YtjgancippgpdhaaGreatDoor
open Go.RowKit
set_option maxRecDepth 100000

abbrev fSource : Nat := 27
def srcNew (l : List UInt8) : Src := ⟨l, 0, (l.length % 1000 : Nat)⟩
set_option maxRecDepth 100000 in
theorem sourceT (l : List UInt8) : fnT E0 1 fSource [sls encByte l] [] =
  T.need [(1000 : Int) ≠ (0 : Int)]
    (T.done (Ret.mk (V.ptr 0 0) [some ([V.dsl (List.length l) false (encs encByte l), V.int IntKind.i64 (0 : Int), V.int IntKind.i64 (Int.tmod (↑(List.length l) : Int) (1000 : Int))], 69)] [])) := (T.force_eq _).symm.trans (by kernel_rfl)

theorem source_ok (l : List UInt8) : FnOK Tryz.prog fSource [sls encByte l] [] ⟨.ptr 0 0, [srcB (srcNew l)], []⟩ := by
  refine fnOK_TL (E := E0) follows named (sourceT l) (by simp) ?_
  simp only [T.WP, All, and_true, ne_eq]
  refine ⟨by omega, rfl, ?_, by simp⟩
  have e : ((l.length : Int)).tmod 1000 = ((l.length % 1000 : Nat) : Int) := by
    rw [Int.tmod_eq_emod_of_nonneg (by omega)]; omega
  rw [e]; rfl
theorem srcNew_ok (l : List UInt8) (h : l.length ≤ 1048576) : (srcNew l).OK 1000000 := ⟨h, by simp [srcNew], by simp only [srcNew]; omega, by simp only [srcNew]; omega⟩
end Go.Proofs.YtjgancippgpdhaaGreatDoor

namespace Go.Proofs.YtjgancippgpdhaaGreatDoor
open Go.RowKit
set_option maxRecDepth 100000

abbrev fDrawn : Nat := 8
abbrev fLawT : Nat := 3
noncomputable def resPJ : ResT := fun f vs hp => match vs, hp with
  | [.agg [.int _ k, .int _ n, .str t, .dsl _ _ ks, .dsl _ _ its]], [] => bif Nat.beq f fIJsonOK then some ⟨okJ (jOf k n t ks its), fun y => ⟨.bool y, [], []⟩⟩ else bif Nat.beq f fIPrint then some ⟨pj (jOf k n t ks its), fun y => ⟨.str y, [], []⟩⟩ else none
  | _, _ => none
set_option maxRecDepth 100000 in
theorem printJsonT (j : J) : fnT { P := Tryz.prog, vw := vwA, res := resPJ } 0 fIPrintJson [.agg (vwJ j)] [] =
  T.bind (okJ (jOf (J.kind j) (J.n j) (J.t j) (encs encStr (J.keys j)) (encs encJ (J.items j)))) fun y0 =>
    T.need
      [FnOK (Env.P (Env.mk Tryz.prog vwA resPJ (fun _ _ => none) [] [] fun _ _ _ _ _ => none)) 18
          [V.agg [V.int IntKind.i64 (J.kind j), V.int IntKind.i64 (J.n j), V.str (J.t j), V.dsl (List.length (J.keys j)) false (encs encStr (J.keys j)), V.dsl (List.length (J.items j)) false (encs encJ (J.items j))]] []
          (Ret.mk (V.bool y0) [] [])]
      (bif !y0 then T.done (Ret.mk (V.tup [V.str [], V.int IntKind.i64 (1 : Int)]) [] [])
      else
        T.bind (pj (jOf (J.kind j) (J.n j) (J.t j) (encs encStr (J.keys j)) (encs encJ (J.items j)))) fun y1 =>
          T.need
            [FnOK (Env.P (Env.mk Tryz.prog vwA resPJ (fun _ _ => none) [] [] fun _ _ _ _ _ => none)) 26
                [V.agg [V.int IntKind.i64 (J.kind j), V.int IntKind.i64 (J.n j), V.str (J.t j), V.dsl (List.length (J.keys j)) false (encs encStr (J.keys j)), V.dsl (List.length (J.items j)) false (encs encJ (J.items j))]]
                [] (Ret.mk (V.str y1) [] [])]
            (T.done (Ret.mk (V.tup [V.str y1, V.int IntKind.i64 (0 : Int)]) [] []))) := (T.force_eq _).symm.trans (by kernel_rfl)
theorem RJ.mj {j : J} (h : RJ j) (m : Nat) (hm : jn j ≤ m) (hm2 : m ≤ 4294967296) : MJ j := by
  induction m generalizing j with
  | zero => obtain ⟨k, n, t, ks, its⟩ := j; rw [jn] at hm; omega
  | succ m ih =>
    have hf := part_flds h.part
    have hn : jn j = 1 + jns j.items := by obtain ⟨k, n, t, ks, its⟩ := j; rw [jn]; rfl
    have hl := jns_length j.items
    refine .mk ⟨by have := hf.t; omega, by have := hf.kl; omega, fun s hs => by have := hf.keys s hs; omega⟩ (by omega) fun x hx => ih (h.item x hx) (by have := jns_mem x hx; omega) (by omega)
theorem printJson_ok (j : J) (h : okJ j = true) : FnOK Tryz.prog fIPrintJson [.agg (vwJ j)] [] ⟨.tup [.str (pj j), .int .i64 0], [], []⟩ := by
  refine fnOK_TL (E := { P := Tryz.prog, vw := vwA, res := resPJ }) follows named (printJsonT j) (by simp) ?_
  have hr := okJ_rj h
  simp only [WP_cond, T.WP, All, and_true, jOf_vw]
  rintro y rfl
  refine ⟨jsonOK_ok j (hr.1.mj 400 hr.2 (by omega)), fun h0 => by rw [h] at h0; simp at h0, fun _ => ?_⟩
  rintro y rfl
  exact ⟨iprint_ok 400 j hr.2 (by omega) hr.1, ⟨rfl, rfl, by simp⟩⟩
noncomputable def resDrn : ResT := fun f vs hp => match vs, hp with
  | [.dsl _ _ cs], [] => bif Nat.beq f fSource then some ⟨(), fun _ => ⟨.ptr 0 0, [srcB (srcNew (decL encByte cs))], []⟩⟩ else none
  | [.ptr 0 0, .int _ _], [some ([.dsl _ _ cs, .int _ k, .int _ s], _)] => bif Nat.beq f fJson then some ⟨jsonF 3 (srcOf cs k s), fun y => ⟨.agg (vwJ y.1), [srcB y.2], [0]⟩⟩ else none
  | _, _ => none
--FOLD vwJ
set_option maxRecDepth 100000 in
theorem drawnT (l : List UInt8) : fnT { P := Tryz.prog, vw := vwA, res := resDrn } 0 fDrawn [sls encByte l] [] =
  T.bind PUnit.unit fun _ =>
    T.need
      [FnOK (Env.P (Env.mk Tryz.prog vwA resDrn (fun _ _ => none) [] [] fun _ _ _ _ _ => none)) 27 [V.dsl (List.length l) false (encs encByte l)] []
          (Ret.mk (V.ptr 0 0)
            [some
                ([V.dsl (List.length (Src.l (srcNew (decL encByte (encs encByte l))))) false (encs encByte (Src.l (srcNew (decL encByte (encs encByte l))))), V.int IntKind.i64 (0 : Int),
                    V.int IntKind.i64 (Src.s (srcNew (decL encByte (encs encByte l))))],
                  69)]
            [])]
      (T.bind (jsonF 3 (srcOf (encs encByte (Src.l (srcNew (decL encByte (encs encByte l))))) (0 : Int) (Src.s (srcNew (decL encByte (encs encByte l)))))) fun y1 =>
        T.need
          [FnOK (Env.P (Env.mk Tryz.prog vwA resDrn (fun _ _ => none) [] [] fun _ _ _ _ _ => none)) 28 [V.ptr 0 0, V.int IntKind.i64 (3 : Int)]
              [some
                  ([V.dsl (List.length (Src.l (srcNew (decL encByte (encs encByte l))))) false (encs encByte (Src.l (srcNew (decL encByte (encs encByte l))))), V.int IntKind.i64 (0 : Int),
                      V.int IntKind.i64 (Src.s (srcNew (decL encByte (encs encByte l))))],
                    69)]
              (Ret.mk (V.agg (vwJ (Prod.fst y1)))
                [some ([V.dsl (List.length (Src.l (Prod.snd y1))) false (encs encByte (Src.l (Prod.snd y1))), V.int IntKind.i64 (↑(Src.k (Prod.snd y1)) : Int), V.int IntKind.i64 (Src.s (Prod.snd y1))], 69)]
                [0])]
          (T.done (Ret.mk (V.agg (vwJ (Prod.fst y1))) [] []))) := (T.force_eq _).symm.trans (by kernel_rfl)
def drawnJ (l : List UInt8) : J := (jsonF 3 (srcNew l)).1
theorem drawn_ok (l : List UInt8) (h : l.length ≤ 1048576) : FnOK Tryz.prog fDrawn [sls encByte l] [] ⟨.agg (vwJ (drawnJ l)), [], []⟩ := by
  refine fnOK_TL (E := { P := Tryz.prog, vw := vwA, res := resDrn }) follows named (drawnT l) (by simp) ?_
  simp only [T.WP, All, and_true, layByte.decL]
  have hs : (0 + qF 3) ≤ 1000000 := by decide
  have h0 : (srcNew l).OK (0 + qF 3) := Src.OK.less (srcNew_ok l h) hs
  rintro - -
  refine ⟨source_ok l, ?_⟩
  rw [show srcOf (encs encByte (srcNew l).l) 0 (srcNew l).s = srcNew l from srcOf_mk (srcNew l)]
  rintro y rfl
  exact ⟨(json_draw 3 (by omega)).call _ 0 h0, ⟨rfl, rfl, by simp⟩⟩
theorem drawn_dr (l : List UInt8) (h : l.length ≤ 1048576) : Dr 3 (drawnJ l) ∧ (pj (drawnJ l)).length ≤ bF 3 := by
  have hs : (0 + qF 3) ≤ 1000000 := by decide
  have h0 : (srcNew l).OK (0 + qF 3) := Src.OK.less (srcNew_ok l h) hs
  exact ⟨json_dr 3 (by omega) _ 0 h0, (json_pr 3 (by omega) _ 0 h0).len⟩
noncomputable def resLT : ResT := fun f vs hp => match vs, hp with
  | [.dsl _ _ cs], [] => bif Nat.beq f fDrawn then some ⟨drawnJ (decL encByte cs), fun y => ⟨.agg (vwJ y), [], []⟩⟩ else none
  | [.agg [.int _ _, .int _ _, .str _, .dsl _ _ _, .sl 0 0 1 _]], [some ([.int _ a, .int _ b, .str c, .dsl _ _ e, .dsl _ _ g], _)] => bif Nat.beq f fIPrintJson then some ⟨pj (one (jOf a b c e g)), fun y => ⟨.tup [.str y, .int .i64 0], [none], [0]⟩⟩ else none
  | [.sl 0 0 3 _], [some ([.str a, .str b, .str c], _)] => bif Nat.beq f fIFeedAll then some ⟨sAll [a, b, c] ⟨Fr.F.zero, []⟩, fun y => ⟨.tup [.agg (vwF y.f), sls encStr y.out, .int .i64 0], [none], [0]⟩⟩ else none
  | [.dsl _ _ _, .sl 0 0 3 _], [some _] => bif Nat.beq f fSame then some ⟨(), fun _ => ⟨.bool true, [none], [0]⟩⟩ else none
  | _, _ => none
noncomputable def ELT : Env := { P := Tryz.prog, vw := vwA, res := resLT }
set_option maxRecDepth 100000 in
theorem lawTT (a b : List UInt8) : fnT ELT 0 fLawT [sls encByte a, sls encByte b] [] =
  bif decide ((↑(List.length a) : Int) > (1048576 : Int)) then T.done (Ret.mk (V.bool true) [] [])
  else
    bif decide ((↑(List.length b) : Int) > (1048576 : Int)) then T.done (Ret.mk (V.bool true) [] [])
    else
      T.bind (drawnJ (decL encByte (encs encByte a))) fun y0 =>
        T.need [FnOK (Env.P ELT) 8 [V.dsl (List.length a) false (encs encByte a)] [] (Ret.mk (V.agg (vwJ y0)) [] [])]
          (T.bind (pj (one (jOf (J.kind y0) (J.n y0) (J.t y0) (encs encStr (J.keys y0)) (encs encJ (J.items y0))))) fun y1 =>
            T.need
              [FnOK (Env.P ELT) 7 [V.agg [V.int IntKind.i64 (4 : Int), V.int IntKind.i64 (0 : Int), V.str [], V.dsl 0 true [], V.sl 0 0 1 true]] [some (vwJ y0, 28)]
                  (Ret.mk (V.tup [V.str y1, V.int IntKind.i64 (0 : Int)]) [none] [0])]
              (T.bind (drawnJ (decL encByte (encs encByte b))) fun y2 =>
                T.need [FnOK (Env.P ELT) 8 [V.dsl (List.length b) false (encs encByte b)] [] (Ret.mk (V.agg (vwJ y2)) [] [])]
                  (T.bind (pj (one (jOf (J.kind y2) (J.n y2) (J.t y2) (encs encStr (J.keys y2)) (encs encJ (J.items y2))))) fun y3 =>
                    T.need
                      [FnOK (Env.P ELT) 7 [V.agg [V.int IntKind.i64 (4 : Int), V.int IntKind.i64 (0 : Int), V.str [], V.dsl 0 true [], V.sl 0 0 1 true]] [some (vwJ y2, 28)]
                          (Ret.mk (V.tup [V.str y3, V.int IntKind.i64 (0 : Int)]) [none] [0])]
                      (T.need [List.length y1 + List.length y3 ≤ 4611686018427387904]
                        (T.bind (sAll [y1 ++ y3, [(32 : UInt8)], y1] (Fr.SS.mk (Fr.F.mk [] (0 : Int) false false false) [])) fun y4 =>
                          T.need
                            [FnOK (Env.P ELT) 9 [V.sl 0 0 3 true] [some ([V.str (y1 ++ y3), V.str [32], V.str y1], 9)]
                                (Ret.mk
                                  (V.tup
                                    [V.agg [V.str (Fr.F.buf (Fr.SS.f y4)), V.int IntKind.i64 (Fr.F.depth (Fr.SS.f y4)), V.bool (Fr.F.quote (Fr.SS.f y4)), V.bool (Fr.F.skip (Fr.SS.f y4)), V.bool (Fr.F.closed (Fr.SS.f y4))],
                                      V.dsl (List.length (Fr.SS.out y4)) false (encs encStr (Fr.SS.out y4)), V.int IntKind.i64 (0 : Int)])
                                  [none] [0])]
                            (T.bind PUnit.unit fun _ =>
                              T.need
                                [FnOK (Env.P ELT) 10 [V.dsl (List.length (Fr.SS.out y4)) false (encs encStr (Fr.SS.out y4)), V.sl 0 0 3 true]
                                    [some ([V.str y1, V.str y3, V.str y1], 9)] (Ret.mk (V.bool true) [none] [0])]
                                (bif
                                    Fr.F.buf (Fr.SS.f y4) == [] &&
                                      (Fr.F.depth (Fr.SS.f y4) == (0 : Int) && (Fr.F.quote (Fr.SS.f y4) == false && (Fr.F.skip (Fr.SS.f y4) == false && (Fr.F.closed (Fr.SS.f y4) == false && true)))) then
                                  T.done (Ret.mk (V.bool (decide ((↑(List.length y1) : Int) > (0 : Int)))) [] [])
                                else T.done (Ret.mk (V.bool false) [] [])))))))) := by kernel_rfl
theorem sAll_texts {A C : List UInt8} (hA : ∀ out, A.foldl Fr.sStep ⟨Fr.F.zero, out⟩ = ⟨Fr.F.zero, out ++ [A]⟩) (hC : ∀ out, C.foldl Fr.sStep ⟨Fr.F.zero, out⟩ = ⟨Fr.F.zero, out ++ [C]⟩) :
    sAll [A ++ C, [32], A] ⟨Fr.F.zero, []⟩ = ⟨Fr.F.zero, [A, C, A]⟩ := by
  have h1 : Fr.sFeed Fr.F.zero (A ++ C) = ⟨Fr.F.zero, [A, C]⟩ := by unfold Fr.sFeed; rw [List.foldl_append, hA, hC]; rfl
  have h2 : Fr.sFeed Fr.F.zero [32] = ⟨Fr.F.zero, []⟩ := rfl
  have h3 : Fr.sFeed Fr.F.zero A = ⟨Fr.F.zero, [A]⟩ := by unfold Fr.sFeed; rw [hA]; rfl
  simp only [sAll, h1, h2, h3]; rfl
theorem one_ok {j : J} (h : Dr 3 j) : FnOK Tryz.prog fIPrintJson [.agg [.int .i64 4, .int .i64 0, .str [], .dsl 0 true [], .sl 0 0 1 true]] [some (vwJ j, tJ)] ⟨.tup [.str (pj (one j)), .int .i64 0], [none], [0]⟩ := by
  refine FnOK.give (cs := vwJ j) (by simp [vwJ, V.refsL, V.refs]) (by simp [flat, vwJ]) ?_
  have h1 := printJson_ok (one j) (one_right h)
  have e : lendL (vwJ j) [.agg [.int .i64 4, .int .i64 0, .str [], .dsl 0 true [], .sl 0 0 1 true]] = [.agg (vwJ (one j))] := by
    rw [show vwJ (one j) = [.int .i64 4, .int .i64 0, .str [], sls encStr ([] : List (List UInt8)), sls encJ [j]] from rfl]
    simp [lendL, lend, sls, encs, encJ_vw]
  rw [e]; exact h1
theorem lawT_ok (a b : List UInt8) : FnOK Tryz.prog fLawT [sls encByte a, sls encByte b] [] ⟨.bool true, [], []⟩ := by
  refine fnOK_TL (E := ELT) follows named (lawTT a b) (by simp) ?_
  simp only [WP_cond, T.WP, All, decide_eq_true_eq, decide_eq_false_iff_not, and_true, layByte.decL]
  refine ⟨fun _ => ⟨rfl, rfl, by simp⟩, fun ha => ⟨fun _ => ⟨rfl, rfl, by simp⟩, fun hb => ?_⟩⟩
  have dA := drawn_dr a (by omega)
  have dC := drawn_dr b (by omega)
  have b3 : bF 3 = 2250 := by decide
  have lone : ∀ j : J, (pj (one j)).length = (pj j).length + 2 := by
    intro j; rw [pj_eq]; simp [one, J.kind, J.keys, J.items, pjs]
  have lA := lone (drawnJ a)
  have lC := lone (drawnJ b)
  have wA := one_whole dA.1 (by omega)
  have wC := one_whole dC.1 (by omega)
  have oA := one_ok dA.1
  have oC := one_ok dC.1
  have drA := drawn_ok a (by omega)
  have drC := drawn_ok b (by omega)
  rintro y rfl
  refine ⟨drA, ?_⟩
  rintro y rfl
  rw [jOf_vw]
  refine ⟨oA, ?_⟩
  rintro y rfl
  refine ⟨drC, ?_⟩
  rintro y rfl
  rw [jOf_vw]
  refine ⟨oC, ?_⟩
  generalize pj (one (drawnJ a)) = A at *
  generalize pj (one (drawnJ b)) = C at *
  refine ⟨by omega, ?_⟩
  rintro y rfl
  have hall := iAll_ok [A ++ C, [32], A] (by simp; omega) (by simp)
  have hs := sAll_texts wA wC
  rw [hs] at hall
  rw [show ({ f := { buf := [], depth := 0, quote := false, skip := false, closed := false }, out := [] } : Fr.SS) = ⟨Fr.F.zero, []⟩ from rfl, hs]
  refine ⟨FnOK.give (cs := encs encStr [A ++ C, [32], A]) (by simp [V.refsL, V.refs]) (by simp [flat, encs, encStr]) hall, ?_⟩
  rintro - -
  refine ⟨FnOK.give (cs := encs encStr [A, C, A]) (by simp [V.refsL, V.refs]) (by simp [flat, encs, encStr]) (same_ok [A, C, A] (by simp)), fun _ => ⟨congrArg V.bool (decide_eq_true (by omega)), rfl, by simp⟩, fun h => by simp [Fr.F.zero] at h⟩
end Go.Proofs.YtjgancippgpdhaaGreatDoor

namespace Go.Proofs.YtjgancippgpdhaaGreatDoor
open Go.RowKit Go.WideShapes Go.ChangeShapes

/-- All that stood before the call. -/
def Old (w : World) : Nat → Prop := fun k => k < w.heap.size

theorem evo_grown {I : Nat → Prop} {w w' : World} {X : Nat → Prop} (h : Evo I w w' X) (hX : ∀ k, ¬ X k) : w.grownBy w' none := ⟨h.os, h.tape, h.output, h.size, fun k hk _ => h.block k hk (hX k)⟩

/-- What the library's tables hold. -/
def TabsLaid (P : Program) (w : World) : Prop := ∀ x ∈ tabs, ∀ g, P.globalNamed x.1 = some g → Lib.TabIs P w x.1 x.2.1 x.2.2
theorem tab_old {P : Program} {w : World} {name : String} {k : IntKind} {zs : List Int} {g : Nat} (h : Lib.TabIs P w name k zs) (hg : P.globalNamed name = some g) : g < w.heap.size := by
  unfold Lib.TabIs World.var? at h
  rw [hg] at h
  simp only [Option.bind_some] at h
  rcases Nat.lt_or_ge g w.heap.size with h1 | h1
  · exact h1
  · rw [Array.getElem?_eq_none h1] at h; simp at h
theorem FnOK.said {P : Program} {f : FuncId} {vs : List V} {vals : Array Value} {w : World} (h : FnOK P f vs [] ⟨.bool true, [], []⟩) (hT : TabsLaid P w) (hv : V.RL P (Old w) noMu w vs vals.toList) :
    Calls P f vals w fun e w' => e = .returned (.bool true) ∧ w.grownBy w' none := by
  refine (h.2 (Old w) w noMu vals hv ⟨⟨fun k hk => hk, fun x hx g hg => ⟨tab_old (hT x hx g hg) hg, hT x hx g hg⟩⟩, by simp, by simp, fun _ _ _ => rfl⟩ (fun b g hb => by cases hb)).mono ?_
  rintro e w' ⟨val, μ', I', rfl, hR, hG⟩
  simp only [V.R] at hR
  subst hR
  exact ⟨rfl, evo_grown hG.evo fun k hk => by obtain ⟨b, hb, _⟩ := hk; simp at hb⟩

theorem row_at {w : World} {a : Addr} {f : Nat → Value} {n : Nat} (hs : a.spot = none) (hn : 0 < n) (hc : ∀ i, i < n → w.cell? (a.add i) = some (f i)) :
    ∃ cells e fr, w.heap[a.block]? = some (.cells cells e fr) ∧ ∀ i, i < n → cells[a.off + i]? = some (f i) := by
  have h0 := hc 0 hn
  have hb : ∀ i, (a.add i) = ⟨a.block, a.off + i, none⟩ := by
    intro i
    unfold Addr.add
    split
    · rename_i h; subst h; obtain ⟨b, o, s⟩ := a; simp only at hs; subst hs; rfl
    · rfl
  rw [hb 0] at h0
  unfold World.cell? at h0
  split at h0
  · rename_i cells e fr hh
    refine ⟨cells, e, fr, hh, fun i hi => ?_⟩
    have h1 := hc i hi
    rw [hb i] at h1
    unfold World.cell? at h1
    rw [hh] at h1
    simpa using h1
  · cases h0

theorem RL_byts {P : Program} {I : Nat → Prop} {μ : Mu} {w : World} : ∀ l : List UInt8, V.RL P I μ w (encs encByte l) (l.map fun b => Value.int .u8 (b.toNat : Nat))
  | [] => by simp [encs, V.RL]
  | b :: l => by
    have : encs encByte (b :: l) = .int .u8 (b.toNat : Nat) :: encs encByte l := rfl
    rw [this, List.map_cons]
    simp only [V.RL, V.R]
    exact ⟨_, _, rfl, rfl, RL_byts l⟩

set_option maxRecDepth 100000 in
theorem bytes_of {H : Type} {enc : TypeId × Value → H} {w : World} {base base0 : Nat} {spare : Nat → Bool} {held : Bool} {v : Value} {d : DataW H} {p : List MemPlace}
    (hok : Value.okWide Tryz.prog w .any base0 22 v) (h : DataW.Trod enc Tryz.prog w base spare held 22 v d p) :
    ∃ l : List UInt8, V.R Tryz.prog (Old w) noMu w (sls encByte l) v := by
  obtain ⟨a0, l0, c0, rfl⟩ := okWide_slice Tryz.underlying22 hok
  have c9 : Tryz.prog.cellsOf 5 = 1 := by kernel_rfl
  obtain ⟨fuel, hf⟩ := h
  rcases open_ints Tryz.underlying22 Tryz.underlying5 c9 hf with ⟨hcs, _⟩ | ⟨ad, len, cap, zs, hcs, _, hl, hm, hlen, _, hcell, hws⟩
  · simp [Value.cells] at hcs
    obtain ⟨rfl, rfl, rfl⟩ := hcs
    refine ⟨[], ?_⟩
    simp only [V.R]
    exact ⟨none, 0, rfl, Nat.le_refl _, fun h => (nomatch h), .inl ⟨rfl, rfl⟩, .inl rfl⟩
  · simp [Value.cells] at hcs
    obtain ⟨rfl, rfl, rfl⟩ := hcs
    have hsp : ad.spot = none := by
      unfold Value.okWide at hok
      rw [Tryz.underlying22] at hok
      simp only [Cell.okWide, Tryz.underlying22, Cell.ok] at hok
      exact hok.2.2.2.1
    have hle : l0 ≤ zs.length := by rw [hlen]; split <;> omega
    let l : List UInt8 := (zs.take l0).map fun z => UInt8.ofNat z.toNat
    have hll : l.length = l0 := by simp only [l, List.length_map, List.length_take]; omega
    refine ⟨l, ?_⟩
    obtain ⟨g, off, s⟩ := ad
    simp only at hsp; subst hsp
    simp only [V.R]
    refine ⟨_, c0, by rw [hll], by omega, fun h => (nomatch h), .inr ⟨g, off, rfl⟩, ?_⟩
    by_cases h0 : l0 = 0
    · left
      have : l = [] := List.eq_nil_of_length_eq_zero (by omega)
      rw [this]; rfl
    · obtain ⟨cells, e, fr, hh, hat⟩ := row_at (a := ⟨g, off, none⟩) (n := l0) rfl (by omega) (fun i hi => hcell i (by omega))
      refine .inr ⟨g, off, rfl, (Array.getElem?_eq_some_iff.1 hh).1, cells, e, fr, hh, ?_⟩
      have hval : ((cells.toList.drop off).take (encs encByte l).length) = l.map fun b => Value.int .u8 (b.toNat : Nat) := by
        rw [show (encs encByte l).length = l0 by rw [layByte.length, Nat.mul_one, hll]]
        apply List.ext_getElem?
        intro i
        rw [List.getElem?_take]
        split
        · rename_i hi
          rw [List.getElem?_drop, Array.getElem?_toList, hat i hi]
          have h1 : zs.getD i 0 ∈ zs := by
            rw [List.getD_eq_getElem?_getD, List.getElem?_eq_getElem (by omega)]; exact List.getElem_mem _
          have h2 := hws _ h1
          have h3 : 0 ≤ zs.getD i 0 ∧ zs.getD i 0 ≤ 255 := by
            have : IntKind.u8.min = 0 ∧ IntKind.u8.max = 255 := by decide
            rw [Lit.wf, this.1, this.2, Bool.and_eq_true, decide_eq_true_eq, decide_eq_true_eq] at h2
            exact h2
          have h4 : (l.map fun b => Value.int .u8 (b.toNat : Nat))[i]? = some (.int .u8 (((UInt8.ofNat (zs.getD i 0).toNat).toNat : Nat) : Int)) := by
            simp only [l, List.getElem?_map]
            rw [List.getElem?_take, if_pos hi, List.getD_eq_getElem?_getD, List.getElem?_eq_getElem (by omega)]
            rfl
          rw [h4, UInt8.toNat_ofNat']
          congr 2
          omega
        · rename_i hi
          rw [List.getElem?_eq_none (by simp only [List.length_map]; omega)]
      rw [hval]
      exact RL_byts l

end Go.Proofs.YtjgancippgpdhaaGreatDoor

/-
  The text of a value.
-/
import Derived.Test.YtopebociobgmhaaRf
namespace Go.Proofs.Ytopebociobgmhaa
open Go.RowKit

abbrev fPrint : Nat := 38

mutual
def pj : J → List UInt8
  | .mk k n t ks its => if k = 0 then [110, 117, 108, 108] else if k = 1 then [[102, 97, 108, 115, 101], [116, 114, 117, 101]].getD n.toNat [] else if k = 2 then dg n else if k = 3 then quo t
    else (if k = 5 then [123] else [91]) ++ pjs (k == 5) true ks its ++ (if k = 5 then [125] else [93])
def pjs : Bool → Bool → List (List UInt8) → List J → List UInt8
  | _, _, _, [] => []
  | o, a, ks, j :: js => (if a then [] else [44]) ++ (if o then quo (ks.headD []) ++ [58] else []) ++ pj j ++ pjs o false ks.tail js
end
mutual
def WJ : J → Prop
  | .mk k n t ks its => (0 ≤ k ∧ k ≤ 5) ∧ (k = 1 → 0 ≤ n ∧ n < 2) ∧ (-9223372036854775808 < n ∧ n ≤ 9223372036854775807) ∧ t.length ≤ 1048576 ∧ (k = 5 → its.length ≤ ks.length) ∧ (∀ s ∈ ks, s.length ≤ 1048576) ∧ its.length ≤ 1048576 ∧ ks.length ≤ 1048576 ∧ WJs its
def WJs : List J → Prop
  | [] => True
  | j :: js => (pj j).length ≤ 1073741824 ∧ WJ j ∧ WJs js
end

noncomputable def resPrint : ResT := fun f vs hp => match vs, hp with
  | [.agg [.int _ k, .int _ n, .str t, .dsl _ _ ks, .dsl _ _ its]], [] => bif Nat.beq f fPrint then some ⟨pj (jOf k n t ks its), fun y => ⟨.str y, [], []⟩⟩ else none
  | _, _ => none
noncomputable def resQuo : ResT := fun f vs hp => match vs, hp with
  | [.str t], [] => bif Nat.beq f fQuote then some ⟨quo t, fun y => ⟨.str y, [], []⟩⟩ else none
  | _, _ => none
noncomputable def EP : Env := { P := Try.prog, vw := vwA, res := (resQuo.or resPrint).or (resDg dg) }

def stP (j : J) (ends out : List UInt8) (i : Int) : St := ⟨mkTm 67 [(1, .ptr 0 0), (3, .str ends), (4, .str out), (5, .int .i64 i)], [some (vwJ j, tJ)], []⟩
def nfP : Ex → Kp := fun _ => { keep := [1, 3, 4, 5] }

--FOLD vwJ
set_option maxRecDepth 100000 in
theorem prT (j : J) (ends out : List UInt8) (i : Int) : bodyT EP 0 nfP (lp Try.prog fPrint 1) (stP j ends out i) =
  bif decide (i < (↑(List.length (J.items j)) : Int)) then
    bif decide (i > (0 : Int)) then
      T.need [List.length out + 1 ≤ 4611686018427387904]
        (bif J.kind j == (5 : Int) then
          T.need
            [(0 : Int) ≤ i ∧ i < (↑(List.length (J.keys j)) : Int),
              List.take 1 (List.drop (Int.toNat i * 1) (encs encStr (J.keys j))) = [V.str (List.getD (decL encStr (encs encStr (J.keys j))) (Int.toNat i) [])]]
            (T.bind (quo (List.getD (decL encStr (encs encStr (J.keys j))) (Int.toNat i) [])) fun y0 =>
              T.need [FnOK (Env.P EP) 44 [V.str (List.getD (decL encStr (encs encStr (J.keys j))) (Int.toNat i) [])] [] (Ret.mk (V.str y0) [] [])]
                (T.need [List.length y0 + 1 ≤ 4611686018427387904]
                  (T.need [List.length (out ++ [(44 : UInt8)]) + List.length (y0 ++ [(58 : UInt8)]) ≤ 4611686018427387904]
                    (T.need
                      [(0 : Int) ≤ i ∧ i < (↑(List.length (J.items j)) : Int),
                        List.take 5 (List.drop (Int.toNat i * 5) (encs encJ (J.items j))) = vwJ (List.getD (decL encJ (encs encJ (J.items j))) (Int.toNat i) (J.mk (0 : Int) (0 : Int) [] [] []))]
                      (T.bind
                        (pj
                          (jOf (J.kind (List.getD (decL encJ (encs encJ (J.items j))) (Int.toNat i) (J.mk (0 : Int) (0 : Int) [] [] [])))
                            (J.n (List.getD (decL encJ (encs encJ (J.items j))) (Int.toNat i) (J.mk (0 : Int) (0 : Int) [] [] [])))
                            (J.t (List.getD (decL encJ (encs encJ (J.items j))) (Int.toNat i) (J.mk (0 : Int) (0 : Int) [] [] [])))
                            (encs encStr (J.keys (List.getD (decL encJ (encs encJ (J.items j))) (Int.toNat i) (J.mk (0 : Int) (0 : Int) [] [] []))))
                            (encs encJ (J.items (List.getD (decL encJ (encs encJ (J.items j))) (Int.toNat i) (J.mk (0 : Int) (0 : Int) [] [] []))))))
                        fun y1 =>
                        T.need [FnOK (Env.P EP) 38 [V.agg (vwJ (List.getD (decL encJ (encs encJ (J.items j))) (Int.toNat i) (J.mk (0 : Int) (0 : Int) [] [] [])))] [] (Ret.mk (V.str y1) [] [])]
                          (T.need [List.length (out ++ [(44 : UInt8)] ++ (y0 ++ [(58 : UInt8)])) + List.length y1 ≤ 4611686018427387904]
                            (T.done
                              (Ex.normal,
                                St.mk
                                  (mkTm 67
                                    [(1, V.ptr 0 0), (3, V.str ends), (4, V.str (out ++ [(44 : UInt8)] ++ (y0 ++ [(58 : UInt8)]) ++ y1)),
                                      (5, V.int IntKind.i64 (IntKind.wrap IntKind.i64 (i + (1 : Int))))])
                                  [some (vwJ j, 64)] []))))))))
        else
          T.need
            [(0 : Int) ≤ i ∧ i < (↑(List.length (J.items j)) : Int),
              List.take 5 (List.drop (Int.toNat i * 5) (encs encJ (J.items j))) = vwJ (List.getD (decL encJ (encs encJ (J.items j))) (Int.toNat i) (J.mk (0 : Int) (0 : Int) [] [] []))]
            (T.bind
              (pj
                (jOf (J.kind (List.getD (decL encJ (encs encJ (J.items j))) (Int.toNat i) (J.mk (0 : Int) (0 : Int) [] [] [])))
                  (J.n (List.getD (decL encJ (encs encJ (J.items j))) (Int.toNat i) (J.mk (0 : Int) (0 : Int) [] [] [])))
                  (J.t (List.getD (decL encJ (encs encJ (J.items j))) (Int.toNat i) (J.mk (0 : Int) (0 : Int) [] [] [])))
                  (encs encStr (J.keys (List.getD (decL encJ (encs encJ (J.items j))) (Int.toNat i) (J.mk (0 : Int) (0 : Int) [] [] []))))
                  (encs encJ (J.items (List.getD (decL encJ (encs encJ (J.items j))) (Int.toNat i) (J.mk (0 : Int) (0 : Int) [] [] []))))))
              fun y2 =>
              T.need [FnOK (Env.P EP) 38 [V.agg (vwJ (List.getD (decL encJ (encs encJ (J.items j))) (Int.toNat i) (J.mk (0 : Int) (0 : Int) [] [] [])))] [] (Ret.mk (V.str y2) [] [])]
                (T.need [List.length (out ++ [(44 : UInt8)]) + List.length y2 ≤ 4611686018427387904]
                  (T.done
                    (Ex.normal,
                      St.mk
                        (mkTm 67
                          [(1, V.ptr 0 0), (3, V.str ends), (4, V.str (out ++ [(44 : UInt8)] ++ y2)), (5, V.int IntKind.i64 (IntKind.wrap IntKind.i64 (i + (1 : Int))))])
                        [some (vwJ j, 64)] [])))))
    else
      bif J.kind j == (5 : Int) then
        T.need
          [(0 : Int) ≤ i ∧ i < (↑(List.length (J.keys j)) : Int),
            List.take 1 (List.drop (Int.toNat i * 1) (encs encStr (J.keys j))) = [V.str (List.getD (decL encStr (encs encStr (J.keys j))) (Int.toNat i) [])]]
          (T.bind (quo (List.getD (decL encStr (encs encStr (J.keys j))) (Int.toNat i) [])) fun y3 =>
            T.need [FnOK (Env.P EP) 44 [V.str (List.getD (decL encStr (encs encStr (J.keys j))) (Int.toNat i) [])] [] (Ret.mk (V.str y3) [] [])]
              (T.need [List.length y3 + 1 ≤ 4611686018427387904]
                (T.need [List.length out + List.length (y3 ++ [(58 : UInt8)]) ≤ 4611686018427387904]
                  (T.need
                    [(0 : Int) ≤ i ∧ i < (↑(List.length (J.items j)) : Int),
                      List.take 5 (List.drop (Int.toNat i * 5) (encs encJ (J.items j))) = vwJ (List.getD (decL encJ (encs encJ (J.items j))) (Int.toNat i) (J.mk (0 : Int) (0 : Int) [] [] []))]
                    (T.bind
                      (pj
                        (jOf (J.kind (List.getD (decL encJ (encs encJ (J.items j))) (Int.toNat i) (J.mk (0 : Int) (0 : Int) [] [] [])))
                          (J.n (List.getD (decL encJ (encs encJ (J.items j))) (Int.toNat i) (J.mk (0 : Int) (0 : Int) [] [] [])))
                          (J.t (List.getD (decL encJ (encs encJ (J.items j))) (Int.toNat i) (J.mk (0 : Int) (0 : Int) [] [] [])))
                          (encs encStr (J.keys (List.getD (decL encJ (encs encJ (J.items j))) (Int.toNat i) (J.mk (0 : Int) (0 : Int) [] [] []))))
                          (encs encJ (J.items (List.getD (decL encJ (encs encJ (J.items j))) (Int.toNat i) (J.mk (0 : Int) (0 : Int) [] [] []))))))
                      fun y4 =>
                      T.need [FnOK (Env.P EP) 38 [V.agg (vwJ (List.getD (decL encJ (encs encJ (J.items j))) (Int.toNat i) (J.mk (0 : Int) (0 : Int) [] [] [])))] [] (Ret.mk (V.str y4) [] [])]
                        (T.need [List.length (out ++ (y3 ++ [(58 : UInt8)])) + List.length y4 ≤ 4611686018427387904]
                          (T.done
                            (Ex.normal,
                              St.mk
                                (mkTm 67
                                  [(1, V.ptr 0 0), (3, V.str ends), (4, V.str (out ++ (y3 ++ [(58 : UInt8)]) ++ y4)),
                                    (5, V.int IntKind.i64 (IntKind.wrap IntKind.i64 (i + (1 : Int))))])
                                [some (vwJ j, 64)] []))))))))
      else
        T.need
          [(0 : Int) ≤ i ∧ i < (↑(List.length (J.items j)) : Int),
            List.take 5 (List.drop (Int.toNat i * 5) (encs encJ (J.items j))) = vwJ (List.getD (decL encJ (encs encJ (J.items j))) (Int.toNat i) (J.mk (0 : Int) (0 : Int) [] [] []))]
          (T.bind
            (pj
              (jOf (J.kind (List.getD (decL encJ (encs encJ (J.items j))) (Int.toNat i) (J.mk (0 : Int) (0 : Int) [] [] [])))
                (J.n (List.getD (decL encJ (encs encJ (J.items j))) (Int.toNat i) (J.mk (0 : Int) (0 : Int) [] [] [])))
                (J.t (List.getD (decL encJ (encs encJ (J.items j))) (Int.toNat i) (J.mk (0 : Int) (0 : Int) [] [] [])))
                (encs encStr (J.keys (List.getD (decL encJ (encs encJ (J.items j))) (Int.toNat i) (J.mk (0 : Int) (0 : Int) [] [] []))))
                (encs encJ (J.items (List.getD (decL encJ (encs encJ (J.items j))) (Int.toNat i) (J.mk (0 : Int) (0 : Int) [] [] []))))))
            fun y5 =>
            T.need [FnOK (Env.P EP) 38 [V.agg (vwJ (List.getD (decL encJ (encs encJ (J.items j))) (Int.toNat i) (J.mk (0 : Int) (0 : Int) [] [] [])))] [] (Ret.mk (V.str y5) [] [])]
              (T.need [List.length out + List.length y5 ≤ 4611686018427387904]
                (T.done
                  (Ex.normal,
                    St.mk (mkTm 67 [(1, V.ptr 0 0), (3, V.str ends), (4, V.str (out ++ y5)), (5, V.int IntKind.i64 (IntKind.wrap IntKind.i64 (i + (1 : Int))))])
                      [some (vwJ j, 64)] []))))
  else T.done (Ex.exit 1, St.mk (mkTm 67 [(1, V.ptr 0 0), (3, V.str ends), (4, V.str out), (5, V.int IntKind.i64 i)]) [some (vwJ j, 64)] []) := by kernel_rfl

theorem jOf_eta (x : J) : jOf x.kind x.n x.t (encs encStr x.keys) (encs encJ x.items) = x := jOf_vw x
theorem pjs_step (o : Bool) (i : Nat) (ks : List (List UInt8)) (its : List J) (h : i < its.length) : pjs o (i == 0) (ks.drop i) (its.drop i) =
    (if i = 0 then [] else [44]) ++ (if o then quo (ks.getD i []) ++ [58] else []) ++ pj (its.getD i J.zero) ++ pjs o (i + 1 == 0) (ks.drop (i + 1)) (its.drop (i + 1)) := by
  rw [List.drop_eq_getElem_cons h, pjs]
  have e1 : (ks.drop i).headD [] = ks.getD i [] := by
    rw [List.headD_eq_head?_getD, List.head?_drop, List.getD_eq_getElem?_getD]
  have e2 : its[i] = its.getD i J.zero := by rw [List.getD_eq_getElem?_getD, List.getElem?_eq_getElem h]; rfl
  rw [e1, e2, List.tail_drop]
  have e3 : (i + 1 == 0) = false := rfl
  rw [e3]
  by_cases hi : i = 0
  · subst hi; rfl
  · rw [if_neg hi, if_neg (by simpa using hi)]

/-- What the loop asks of the value. -/
structure PrOK (j : J) : Prop where
  items : ∀ x ∈ j.items, FnOK Try.prog fPrint [.agg (vwJ x)] [] ⟨.str (pj x), [], []⟩ ∧ (pj x).length ≤ 1073741824
  keys : ∀ s ∈ j.keys, s.length ≤ 1048576
  len : j.items.length ≤ 1048576
  obj : j.kind = 5 → j.items.length ≤ j.keys.length

theorem pr_loop (j : J) (hj : PrOK j) (ends : List UInt8) : ∀ (m : Nat) (out : List UInt8) (i : Nat), i + m = j.items.length → out.length ≤ (i + 1) * 4294967296 →
    LoopTo Try.prog 0 (lp Try.prog fPrint 1) (stP j ends out i) (.exit 1) (stP j ends (out ++ pjs (j.kind == 5) (i == 0) (j.keys.drop i) (j.items.drop i)) j.items.length)
  | 0, out, i, h1, h2 => by
    refine loopT (E := EP) follows named (prT j ends out i) ?_
    obtain rfl : i = j.items.length := h1
    simp only [WP_cond, T.WP, All, decide_eq_true_eq, decide_eq_false_iff_not, and_true, beq_iff_eq, beq_eq_false_iff_ne, ne_eq]
    refine ⟨fun h => by omega, fun _ => ⟨rfl, ?_⟩⟩
    rw [List.drop_length]; simp [stP, pjs]
  | m + 1, out, i, h1, h2 => by
    refine loopT (E := EP) follows named (prT j ends out i) ?_
    have hi : i < j.items.length := by omega
    have hl := hj.len
    rw [pjs_step _ _ _ _ hi]
    have hx := hj.items (j.items.getD i J.zero) (by rw [List.getD_eq_getElem?_getD, List.getElem?_eq_getElem hi]; exact List.getElem_mem hi)
    have ih := pr_loop j hj ends m (out ++ ((if i = 0 then [] else [44]) ++ (if j.kind == 5 then quo (j.keys.getD i []) ++ [58] else []) ++ pj (j.items.getD i J.zero))) (i + 1) (by omega)
    have hat := layJ.at j.items J.zero i 5 hi rfl
    rw [encJ_vw] at hat
    have hq : j.kind = 5 → i < j.keys.length ∧ (j.keys.getD i []).length ≤ 1048576 ∧ ((encs encStr j.keys).drop (i * 1)).take 1 = encStr (j.keys.getD i []) := by
      intro hk
      have h3 := hj.obj hk
      refine ⟨by omega, ?_, layStr.at j.keys [] i 1 (by omega) rfl⟩
      rw [List.getD_eq_getElem?_getD, List.getElem?_eq_getElem (by omega)]
      exact hj.keys _ (List.getElem_mem _)
    simp only [WP_cond, T.WP, All, decide_eq_true_eq, decide_eq_false_iff_not, and_true, beq_iff_eq, beq_eq_false_iff_ne, ne_eq, layJ.decL, layStr.decL, Int.toNat_natCast, jOf_eta, show (J.mk 0 0 [] [] [] : J) = J.zero from rfl, wrap_succ (show i < 9223372036854775807 by omega)]
    simp only [beq_iff_eq] at ih
    generalize j.items.getD i J.zero = x at *
    generalize j.keys.getD i [] = q at *
    obtain ⟨hx1, hx2⟩ := hx
    have hm : i * 4294967296 ≤ 1048576 * 4294967296 := Nat.mul_le_mul_right _ (by omega)
    have hql := quo_len q
    refine ⟨fun _ => ⟨fun hi0 => ⟨by omega, fun hk => ?_, fun hk => ?_⟩, fun hi0 => ⟨fun hk => ?_, fun hk => ?_⟩⟩, fun h => by omega⟩
    · obtain ⟨q1, q2, q3⟩ := hq hk
      refine ⟨⟨by omega, q3⟩, ?_⟩
      rintro y rfl
      simp only [hk, if_true, if_neg (show ¬ i = 0 by omega), List.length_append, List.length_cons, List.length_nil, List.append_assoc] at ih ⊢
      refine ⟨quote_ok q q2, by omega, by omega, ⟨by omega, hat⟩, ?_⟩
      rintro y rfl
      exact ⟨hx1, by omega, ih (by omega)⟩
    · refine ⟨⟨by omega, hat⟩, ?_⟩
      rintro y rfl
      simp only [hk, if_false, if_neg (show ¬ i = 0 by omega), List.length_append, List.length_cons, List.length_nil, List.append_assoc] at ih ⊢
      exact ⟨hx1, by omega, ih (by omega)⟩
    · obtain ⟨q1, q2, q3⟩ := hq hk
      refine ⟨⟨by omega, q3⟩, ?_⟩
      rintro y rfl
      simp only [hk, if_true, if_pos (show i = 0 by omega), List.length_append, List.length_cons, List.length_nil, List.append_assoc] at ih ⊢
      refine ⟨quote_ok q q2, by omega, by omega, ⟨by omega, hat⟩, ?_⟩
      rintro y rfl
      exact ⟨hx1, by omega, ih (by omega)⟩
    · refine ⟨⟨by omega, hat⟩, ?_⟩
      rintro y rfl
      simp only [hk, if_false, if_pos (show i = 0 by omega), List.length_append, List.length_cons, List.length_nil, List.append_assoc] at ih ⊢
      exact ⟨hx1, by omega, ih (by omega)⟩

noncomputable def lsPrint (j : J) : Nat → St → Option LRes := fun id s => match id, s.tm.get 3, s.tm.get 4 with
  | 1, .str ends, .str out => some ⟨out ++ pjs (j.kind == 5) true j.keys j.items, fun y => .one { keep := [1, 3, 4, 5] } (stP j ends out 0) (.exit 1) (stP j ends y j.items.length)⟩
  | _, _, _ => none
noncomputable def EPj (j : J) : Env := { P := Try.prog, vw := vwA, res := (resQuo.or resPrint).or (resDg dg), ls := lsPrint j, vs := [(5, 4, .str ([[102, 97, 108, 115, 101], [116, 114, 117, 101]].getD j.n.toNat []))] }

set_option maxRecDepth 100000 in
theorem printT (j : J) : fnT (EPj j) 0 fPrint [.agg (vwJ j)] [] =
  bif J.kind j == (0 : Int) then T.done (Ret.mk (V.str [110, 117, 108, 108]) [] [])
  else
    bif J.kind j == (1 : Int) then
      T.need [(0 : Int) ≤ J.n j ∧ J.n j < (2 : Int)]
        (T.need
          [[V.str [102, 97, 108, 115, 101], V.str [116, 114, 117, 101]][0 + Int.toNat (J.n j) * 1]? =
              some (V.str (List.getD [[(102 : UInt8), (97 : UInt8), (108 : UInt8), (115 : UInt8), (101 : UInt8)], [(116 : UInt8), (114 : UInt8), (117 : UInt8), (101 : UInt8)]] (Int.toNat (J.n j)) []))]
          (T.done (Ret.mk (V.str (List.getD [[(102 : UInt8), (97 : UInt8), (108 : UInt8), (115 : UInt8), (101 : UInt8)], [(116 : UInt8), (114 : UInt8), (117 : UInt8), (101 : UInt8)]] (Int.toNat (J.n j)) [])) [] [])))
    else
      bif J.kind j == (2 : Int) then T.bind (dg (J.n j)) fun y0 => T.need [FnOK (Env.P (EPj j)) 43 [V.int IntKind.i64 (J.n j)] [] (Ret.mk (V.str y0) [] [])] (T.done (Ret.mk (V.str y0) [] []))
      else
        bif J.kind j == (3 : Int) then T.bind (quo (J.t j)) fun y1 => T.need [FnOK (Env.P (EPj j)) 44 [V.str (J.t j)] [] (Ret.mk (V.str y1) [] [])] (T.done (Ret.mk (V.str y1) [] []))
        else
          bif J.kind j == (5 : Int) then
            T.need [(0 : Int) ≤ (1 : Int) ∧ (1 : Int) ≤ (2 : Int)]
              (T.bind ([(123 : UInt8)] ++ pjs (J.kind j == (5 : Int)) true (J.keys j) (J.items j)) fun y2 =>
                T.need
                  [St.mk (mkTm 67 [(1, V.ptr 0 0), (3, V.str [123, 125]), (4, V.str [123]), (5, V.int IntKind.i64 (0 : Int))])
                        [some (vwJ j, 64)] [] =
                      St.mk (mkTm 67 [(1, V.ptr 0 0), (3, V.str [123, 125]), (4, V.str [123]), (5, V.int IntKind.i64 (0 : Int))])
                        [some (vwJ j, 64)] [],
                    SoundC (Env.P (EPj j)) 0 (blk Try.prog fPrint 1)
                      (St.mk (mkTm 67 [(1, V.ptr 0 0), (3, V.str [123, 125]), (4, V.str [123]), (5, V.int IntKind.i64 (0 : Int))])
                        [some (vwJ j, 64)] [])
                      (Ex.exit 1)
                      (St.mk
                        (mkTm 67
                          [(1, V.ptr 0 0), (3, V.str [123, 125]), (4, V.str y2), (5, V.int IntKind.i64 (↑(List.length (J.items j)) : Int))])
                        [some (vwJ j, 64)] [])]
                  (T.need [(0 : Int) ≤ (1 : Int) ∧ (1 : Int) ≤ (2 : Int)] (T.need [List.length y2 + 1 ≤ 4611686018427387904] (T.done (Ret.mk (V.str (y2 ++ [(125 : UInt8)])) [] [])))))
          else
            T.need [(0 : Int) ≤ (1 : Int) ∧ (1 : Int) ≤ (2 : Int)]
              (T.bind ([(91 : UInt8)] ++ pjs (J.kind j == (5 : Int)) true (J.keys j) (J.items j)) fun y3 =>
                T.need
                  [St.mk (mkTm 67 [(1, V.ptr 0 0), (3, V.str [91, 93]), (4, V.str [91]), (5, V.int IntKind.i64 (0 : Int))])
                        [some (vwJ j, 64)] [] =
                      St.mk (mkTm 67 [(1, V.ptr 0 0), (3, V.str [91, 93]), (4, V.str [91]), (5, V.int IntKind.i64 (0 : Int))])
                        [some (vwJ j, 64)] [],
                    SoundC (Env.P (EPj j)) 0 (blk Try.prog fPrint 1)
                      (St.mk (mkTm 67 [(1, V.ptr 0 0), (3, V.str [91, 93]), (4, V.str [91]), (5, V.int IntKind.i64 (0 : Int))])
                        [some (vwJ j, 64)] [])
                      (Ex.exit 1)
                      (St.mk
                        (mkTm 67 [(1, V.ptr 0 0), (3, V.str [91, 93]), (4, V.str y3), (5, V.int IntKind.i64 (↑(List.length (J.items j)) : Int))])
                        [some (vwJ j, 64)] [])]
                  (T.need [(0 : Int) ≤ (1 : Int) ∧ (1 : Int) ≤ (2 : Int)] (T.need [List.length y3 + 1 ≤ 4611686018427387904] (T.done (Ret.mk (V.str (y3 ++ [(93 : UInt8)])) [] []))))) := by kernel_rfl

theorem pj_eq (j : J) : pj j = if j.kind = 0 then [110, 117, 108, 108] else if j.kind = 1 then [[102, 97, 108, 115, 101], [116, 114, 117, 101]].getD j.n.toNat [] else if j.kind = 2 then dg j.n else if j.kind = 3 then quo j.t
    else (if j.kind = 5 then [123] else [91]) ++ pjs (j.kind == 5) true j.keys j.items ++ (if j.kind = 5 then [125] else [93]) := by
  cases j; rfl

/-- What printing asks of the value's own fields. -/
structure PrTop (j : J) : Prop where
  bool : j.kind = 1 → 0 ≤ j.n ∧ j.n < 2
  num : -9223372036854775808 < j.n ∧ j.n ≤ 9223372036854775807
  text : j.t.length ≤ 1048576

theorem print_top (j : J) (h : PrTop j) (hj : PrOK j) (hlen : (pjs (j.kind == 5) true j.keys j.items).length ≤ 4611686018427387000) : FnOK Try.prog fPrint [.agg (vwJ j)] [] ⟨.str (pj j), [], []⟩ := by
  rw [pj_eq]
  refine fnOK_TL (E := EPj j) follows named (printT j) (by simp) ?_
  simp only [WP_cond, T.WP, All, decide_eq_true_eq, decide_eq_false_iff_not, and_true, beq_iff_eq, beq_eq_false_iff_ne, ne_eq]
  have hL := pr_loop j hj
  refine ⟨fun k0 => ?_, fun k0 => ⟨fun k1 => ?_, fun k1 => ⟨fun k2 y e => ?_, fun k2 => ⟨fun k3 y e => ?_, fun k3 => ⟨fun k5 => ⟨by omega, fun y e => ?_⟩, fun k5 => ⟨by omega, fun y e => ?_⟩⟩⟩⟩⟩⟩
  · rw [if_pos k0]; exact ⟨rfl, rfl, by simp⟩
  · have hb := h.bool k1
    refine ⟨hb, ?_, ?_⟩
    · have : j.n = 0 ∨ j.n = 1 := by omega
      rcases this with e | e <;> rw [e] <;> rfl
    · rw [if_neg k0, if_pos k1]; exact ⟨rfl, rfl, by simp⟩
  · subst e
    rw [if_neg k0, if_neg k1, if_pos k2]
    exact ⟨dg_ok _ h.num, ⟨rfl, rfl, by simp⟩⟩
  · subst e
    rw [if_neg k0, if_neg k1, if_neg k2, if_pos k3]
    exact ⟨quote_ok _ h.text, ⟨rfl, rfl, by simp⟩⟩
  · subst e
    have h0 := hL [123, 125] j.items.length [123] 0 (by omega) (by simp)
    rw [List.drop_zero, List.drop_zero] at h0
    rw [if_neg k0, if_neg k1, if_neg k2, if_neg k3]
    simp only [if_pos k5]
    exact ⟨⟨trivial, .loopTo h0⟩, ⟨by omega, by omega⟩, by simp only [List.length_append, List.length_cons, List.length_nil]; omega, ⟨rfl, rfl, by simp⟩⟩
  · subst e
    have h0 := hL [91, 93] j.items.length [91] 0 (by omega) (by simp)
    rw [List.drop_zero, List.drop_zero] at h0
    rw [if_neg k0, if_neg k1, if_neg k2, if_neg k3]
    simp only [if_neg k5]
    exact ⟨⟨trivial, .loopTo h0⟩, ⟨by omega, by omega⟩, by simp only [List.length_append, List.length_cons, List.length_nil]; omega, ⟨rfl, rfl, by simp⟩⟩

end Go.Proofs.Ytopebociobgmhaa

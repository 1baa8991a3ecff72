/-
  The text of a value: digits and quoted texts.
-/
import Derived.Test.YtopebociobgmhaaRe
namespace Go.Proofs.Ytopebociobgmhaa
open Go.RowKit

abbrev fDigits : Nat := 43
abbrev fQuote : Nat := 44

/-- Digits, k at most. -/
def dgs : Nat → Int → List UInt8
  | 0, _ => []
  | k + 1, n => if n < 10 then [UInt8.ofNat (48 + n).toNat] else dgs k (n.tdiv 10) ++ [UInt8.ofNat (48 + n.tmod 10).toNat]
def dg (n : Int) : List UInt8 := if n < 0 then 45 :: dgs 19 (-n) else dgs 19 n
noncomputable def resDg (g : Int → List UInt8) : ResT := fun f vs hp => match vs, hp with
  | [.int _ n], [] => bif Nat.beq f fDigits then some ⟨g n, fun y => ⟨.str y, [], []⟩⟩ else none
  | _, _ => none

set_option maxRecDepth 100000 in
theorem dgT (g : Int → List UInt8) (n : Int) : fnT { P := Try.prog, vw := vwA, res := resDg g } 0 fDigits [.int .i64 n] [] =
  bif n == (-9223372036854775808 : Int) then
    T.done
      (Ret.mk
        (V.str
          [(45 : UInt8), (57 : UInt8), (50 : UInt8), (50 : UInt8), (51 : UInt8), (51 : UInt8), (55 : UInt8), (50 : UInt8), (48 : UInt8), (51 : UInt8), (54 : UInt8), (56 : UInt8), (53 : UInt8), (52 : UInt8), (55 : UInt8),
            (55 : UInt8), (53 : UInt8), (56 : UInt8), (48 : UInt8), (56 : UInt8)])
        [] [])
  else
    bif decide (n < (0 : Int)) then
      T.bind (g (IntKind.wrap IntKind.i64 ((0 : Int) - n))) fun y0 =>
        T.need [FnOK (Env.P (Env.mk Try.prog vwA (resDg g) (fun x x_1 => none) [])) 43 [V.int IntKind.i64 (IntKind.wrap IntKind.i64 ((0 : Int) - n))] [] (Ret.mk (V.str y0) [] [])]
          (T.need [1 + List.length y0 ≤ 4611686018427387904] (T.done (Ret.mk (V.str ([(45 : UInt8)] ++ y0)) [] [])))
    else
      bif decide (n < (10 : Int)) then
        T.need
          [(0 : Int) ≤ IntKind.wrap IntKind.u8 (IntKind.wrap IntKind.i64 ((48 : Int) + n)) ∧ IntKind.wrap IntKind.u8 (IntKind.wrap IntKind.i64 ((48 : Int) + n)) < (256 : Int), 0 = 0, 1 = 1]
          (T.done (Ret.mk (V.str [UInt8.ofNat (Int.toNat (IntKind.wrap IntKind.u8 (IntKind.wrap IntKind.i64 ((48 : Int) + n))))]) [] []))
      else
        T.need [(10 : Int) ≠ (0 : Int)]
          (T.bind (g (IntKind.wrap IntKind.i64 (Int.tdiv n (10 : Int)))) fun y1 =>
            T.need [FnOK (Env.P (Env.mk Try.prog vwA (resDg g) (fun x x_1 => none) [])) 43 [V.int IntKind.i64 (IntKind.wrap IntKind.i64 (Int.tdiv n (10 : Int)))] [] (Ret.mk (V.str y1) [] [])]
              (T.need [(10 : Int) ≠ (0 : Int)]
                (T.need
                  [(0 : Int) ≤ IntKind.wrap IntKind.u8 (IntKind.wrap IntKind.i64 ((48 : Int) + Int.tmod n (10 : Int))) ∧
                      IntKind.wrap IntKind.u8 (IntKind.wrap IntKind.i64 ((48 : Int) + Int.tmod n (10 : Int))) < (256 : Int),
                    0 = 0, 1 = 1]
                  (T.need [List.length y1 + 1 ≤ 4611686018427387904]
                    (T.done (Ret.mk (V.str (y1 ++ [UInt8.ofNat (Int.toNat (IntKind.wrap IntKind.u8 (IntKind.wrap IntKind.i64 ((48 : Int) + Int.tmod n (10 : Int)))))])) [] [])))))) := by kernel_rfl

theorem dgs_len : ∀ (k : Nat) (n : Int), (dgs k n).length ≤ k
  | 0, _ => by simp [dgs]
  | k + 1, n => by
    unfold dgs
    split
    · simp
    · have := dgs_len k (n.tdiv 10)
      simp; omega
theorem dgs_ok : ∀ (k : Nat) (n : Int), k ≤ 100 → 0 ≤ n → n ≤ 9223372036854775807 → n < 10 ^ (k + 1) → FnOK Try.prog fDigits [.int .i64 n] [] ⟨.str (dgs (k + 1) n), [], []⟩
  | k0, n, hk, h0, h1, h2 => by
    obtain ⟨k, ek⟩ : ∃ k, k0 = k := ⟨_, rfl⟩
    rw [ek] at hk h2 ⊢
    refine fnOK_TL (E := { P := Try.prog, vw := vwA, res := resDg (dgs k) }) follows named (dgT (dgs k) n) (by simp) ?_
    simp only [WP_cond, T.WP, All, decide_eq_true_eq, decide_eq_false_iff_not, and_true, beq_iff_eq, beq_eq_false_iff_ne, ne_eq]
    refine ⟨fun h => by omega, fun _ => ⟨fun h => by omega, fun _ => ⟨fun h => ?_, fun h => ?_⟩⟩⟩
    · rw [wrap_id (by omega), IntWalk.u8_in _ (by omega)]
      refine ⟨by omega, ?_⟩
      simp only [dgs, h, if_true]; exact ⟨rfl, rfl, by simp⟩
    · have q := Int.tdiv_eq_ediv_of_nonneg (b := 10) h0
      have r := Int.tmod_eq_emod_of_nonneg (b := 10) h0
      rw [wrap_id (n := n.tdiv 10) (by omega), wrap_id (n := 48 + n.tmod 10) (by omega), IntWalk.u8_in _ (by omega)]
      refine ⟨by omega, fun y e => ?_⟩
      subst e
      rcases k with _ | k
      · simp at h2; omega
      have hl := dgs_len (k + 1) (n.tdiv 10)
      refine ⟨dgs_ok k _ (by omega) (by omega) (by omega) ?_, by omega, by omega, by omega, ?_⟩
      · rw [Int.pow_succ] at h2; omega
      · have e : dgs (k + 1 + 1) n = dgs (k + 1) (n.tdiv 10) ++ [UInt8.ofNat (48 + n.tmod 10).toNat] := by
          rw [dgs, if_neg h]
        rw [e]; exact ⟨rfl, rfl, by simp⟩
termination_by k => k
decreasing_by omega

theorem dg_ok (n : Int) (h : -9223372036854775808 < n ∧ n ≤ 9223372036854775807) : FnOK Try.prog fDigits [.int .i64 n] [] ⟨.str (dg n), [], []⟩ := by
  by_cases hn : n < 0
  · refine fnOK_TL (E := { P := Try.prog, vw := vwA, res := resDg (dgs 19) }) follows named (dgT (dgs 19) n) (by simp) ?_
    simp only [WP_cond, T.WP, All, decide_eq_true_eq, decide_eq_false_iff_not, and_true, beq_iff_eq, beq_eq_false_iff_ne, ne_eq]
    refine ⟨fun h => by omega, fun _ => ⟨fun _ y e => ?_, fun h => by omega⟩⟩
    rw [wrap_id (by omega), show 0 - n = -n by omega] at e ⊢
    subst e
    have hl := dgs_len 19 (-n)
    refine ⟨dgs_ok 18 _ (by omega) (by omega) (by omega) (by omega), by omega, ?_⟩
    simp only [dg, hn, if_true]; exact ⟨rfl, rfl, by simp⟩
  · have := dgs_ok 18 n (by omega) (by omega) (by omega) (by omega)
    simp only [dg, hn, if_false]; exact this
theorem dg_len (n : Int) : (dg n).length ≤ 20 := by
  unfold dg
  split
  · have := dgs_len 19 (-n); simp; omega
  · have := dgs_len 19 n; omega

/-- A text's bytes, with what is set ahead of some of them. -/
def escB (c : UInt8) : List UInt8 := if c = 34 then [92, c] else if c = 92 then [92, c] else [c]
def escL (t : List UInt8) : List UInt8 := t.flatMap escB
def quo (t : List UInt8) : List UInt8 := 34 :: (escL t ++ [34])
def bytB (l : List UInt8) : Option Blk := some ([.sld (encs encByte l)], 5)
def stQ (t : List UInt8) (out : List UInt8) (i : Nat) (b : Bool) : St := ⟨mkTm 35 [(0, .str t), (3, .sl 0 0 out.length b), (4, .int .i64 i)], [bytB out], []⟩
def nfQ : Ex → Kp := fun _ => { keep := [0, 3, 4] }

--FOLD bytB
set_option maxRecDepth 100000 in
theorem quoT (t : List UInt8) (out : List UInt8) (i : Nat) (b : Bool) : bodyT E0 0 nfQ (lp Try.prog fQuote 0) (stQ t out i b) =
  bif decide ((↑i : Int) < (↑(List.length t) : Int)) then
    T.need [(0 : Int) ≤ (↑i : Int) ∧ (↑i : Int) < (↑(List.length t) : Int)]
      (bif (↑(UInt8.toNat (List.getD t (Int.toNat (↑i : Int)) (0 : UInt8))) : Int) == (34 : Int) then
        T.need
          [0 = 0, List.length (encs encByte out) = List.length out * 1, List.length out + 1 ≤ 9223372036854775807,
            (List.length out + 1) * 1 ≤ 140737488355328]
          (T.need [(0 : Int) ≤ (↑i : Int) ∧ (↑i : Int) < (↑(List.length t) : Int)]
            (T.need
              [0 = 0, List.length (encs encByte out ++ [V.int IntKind.u8 (92 : Int)]) = (List.length out + 1) * 1, List.length out + 1 + 1 ≤ 9223372036854775807,
                (List.length out + 1 + 1) * 1 ≤ 140737488355328]
              (T.done
                (Ex.normal,
                  St.mk
                    (mkTm 35
                      [(0, V.str t), (3, V.sl 0 0 (List.length out + 1 + 1) false), (4, V.int IntKind.i64 (IntKind.wrap IntKind.i64 ((↑i : Int) + (1 : Int))))])
                    [some ([V.sld (encs encByte out ++ [V.int IntKind.u8 (92 : Int), V.int IntKind.u8 (↑(UInt8.toNat (List.getD t (Int.toNat (↑i : Int)) (0 : UInt8))) : Int)])], 5)] []))))
      else
        T.need [(0 : Int) ≤ (↑i : Int) ∧ (↑i : Int) < (↑(List.length t) : Int)]
          (bif (↑(UInt8.toNat (List.getD t (Int.toNat (↑i : Int)) (0 : UInt8))) : Int) == (92 : Int) then
            T.need
              [0 = 0, List.length (encs encByte out) = List.length out * 1, List.length out + 1 ≤ 9223372036854775807,
                (List.length out + 1) * 1 ≤ 140737488355328]
              (T.need [(0 : Int) ≤ (↑i : Int) ∧ (↑i : Int) < (↑(List.length t) : Int)]
                (T.need
                  [0 = 0, List.length (encs encByte out ++ [V.int IntKind.u8 (92 : Int)]) = (List.length out + 1) * 1, List.length out + 1 + 1 ≤ 9223372036854775807,
                    (List.length out + 1 + 1) * 1 ≤ 140737488355328]
                  (T.done
                    (Ex.normal,
                      St.mk
                        (mkTm 35
                          [(0, V.str t), (3, V.sl 0 0 (List.length out + 1 + 1) false), (4, V.int IntKind.i64 (IntKind.wrap IntKind.i64 ((↑i : Int) + (1 : Int))))])
                        [some ([V.sld (encs encByte out ++ [V.int IntKind.u8 (92 : Int), V.int IntKind.u8 (↑(UInt8.toNat (List.getD t (Int.toNat (↑i : Int)) (0 : UInt8))) : Int)])], 5)] []))))
          else
            T.need [(0 : Int) ≤ (↑i : Int) ∧ (↑i : Int) < (↑(List.length t) : Int)]
              (T.need
                [0 = 0, List.length (encs encByte out) = List.length out * 1, List.length out + 1 ≤ 9223372036854775807,
                  (List.length out + 1) * 1 ≤ 140737488355328]
                (T.done
                  (Ex.normal,
                    St.mk
                      (mkTm 35 [(0, V.str t), (3, V.sl 0 0 (List.length out + 1) false), (4, V.int IntKind.i64 (IntKind.wrap IntKind.i64 ((↑i : Int) + (1 : Int))))])
                      [some ([V.sld (encs encByte out ++ [V.int IntKind.u8 (↑(UInt8.toNat (List.getD t (Int.toNat (↑i : Int)) (0 : UInt8))) : Int)])], 5)] [])))))
  else T.done (Ex.exit 0, St.mk (mkTm 35 [(0, V.str t), (3, V.sl 0 0 (List.length out) b), (4, V.int IntKind.i64 (↑i : Int))]) [bytB out] []) := by kernel_rfl

theorem escL_cons (c : UInt8) (t : List UInt8) : escL (c :: t) = escB c ++ escL t := by simp [escL]
theorem quo_loop (t : List UInt8) (ht : t.length ≤ 1048576) : ∀ (m : Nat) (out : List UInt8) (i : Nat) (b : Bool), i + m = t.length → out.length + 2 * m ≤ 4194304 → LoopTo Try.prog 0 (lp Try.prog fQuote 0) (stQ t out i b) (.exit 0) (stQ t (out ++ escL (t.drop i)) t.length (b && i == t.length))
  | 0, out, i, b, h1, h2 => by
    refine loopT (E := E0) follows named (quoT t out i b) ?_
    simp only [WP_cond, T.WP, All, decide_eq_true_eq, decide_eq_false_iff_not, and_true, beq_iff_eq, beq_eq_false_iff_ne, ne_eq]
    obtain rfl : i = t.length := h1
    refine ⟨fun h => by omega, fun _ => ⟨rfl, ?_⟩⟩
    rw [List.drop_length]; simp [stQ, escL, bytB]
  | m + 1, out, i, b, h1, h2 => by
    refine loopT (E := E0) follows named (quoT t out i b) ?_
    rw [show (b && i == t.length) = false by rw [beq_eq_false_iff_ne.2 (by omega)]; simp]
    have hd : t.drop i = t.getD i 0 :: t.drop (i + 1) := by
      rw [List.drop_eq_getElem_cons (by omega), List.getD_eq_getElem?_getD, List.getElem?_eq_getElem (by omega)]; rfl
    simp only [WP_cond, T.WP, All, decide_eq_true_eq, decide_eq_false_iff_not, and_true, beq_iff_eq, beq_eq_false_iff_ne, ne_eq, Int.toNat_natCast, hd, escL_cons]
    refine ⟨fun hi => ⟨by omega, ?_⟩, fun h => by omega⟩
    generalize hc : t.getD i 0 = c
    have hq : (c.toNat : Int) = 34 ↔ c = 34 := by
      constructor
      · intro h; exact UInt8.toNat_inj.1 (by rw [show (34 : UInt8).toNat = 34 from rfl]; omega)
      · rintro rfl; rfl
    have hs : (c.toNat : Int) = 92 ↔ c = 92 := by
      constructor
      · intro h; exact UInt8.toNat_inj.1 (by rw [show (92 : UInt8).toNat = 92 from rfl]; omega)
      · rintro rfl; rfl
    simp only [hq, hs, wrap_succ (show i < 9223372036854775807 by omega)]
    have ih := quo_loop t ht m (out ++ escB c) (i + 1) false (by omega)
    have hesc : escB c = if c = 34 then [92, c] else if c = 92 then [92, c] else [c] := rfl
    have hl := layByte.length out
    have hl1 : (out ++ [92, c]).length = out.length + 1 + 1 := by simp
    have hl2 : (out ++ [c]).length = out.length + 1 := by simp
    have he1 : encs encByte (out ++ [92, c]) = encs encByte out ++ [V.int IntKind.u8 92, V.int IntKind.u8 (c.toNat : Int)] := by rw [encs_append]; rfl
    have he2 : encs encByte (out ++ [c]) = encs encByte out ++ [V.int IntKind.u8 (c.toNat : Int)] := by rw [encs_append]; rfl
    by_cases e1 : c = 34
    · rw [hesc, if_pos e1] at ih ⊢
      simp only [stQ, bytB, hl1, he1, List.append_assoc, Bool.false_and] at ih
      simp only [eq_true e1, true_implies, not_true_eq_false, false_implies, and_true, true_and]
      refine ⟨⟨by omega, by omega, by omega⟩, ⟨by omega, by omega⟩, ⟨by simp; omega, by omega, by omega⟩, ?_⟩
      exact ih (by omega)
    · by_cases e2 : c = 92
      · rw [hesc, if_neg e1, if_pos e2] at ih ⊢
        simp only [stQ, bytB, hl1, he1, List.append_assoc, Bool.false_and] at ih
        simp only [eq_true e2, eq_false e1, true_implies, not_true_eq_false, not_false_eq_true, false_implies, and_true, true_and]
        refine ⟨by omega, ⟨by omega, by omega, by omega⟩, ⟨by omega, by omega⟩, ⟨by simp; omega, by omega, by omega⟩, ?_⟩
        exact ih (by omega)
      · rw [hesc, if_neg e1, if_neg e2] at ih ⊢
        simp only [stQ, bytB, hl2, he2, List.append_assoc, Bool.false_and] at ih
        simp only [eq_false e2, eq_false e1, true_implies, not_true_eq_false, not_false_eq_true, false_implies, and_true, true_and]
        refine ⟨by omega, ⟨by omega, by omega⟩, ⟨by omega, by omega, by omega⟩, ?_⟩
        exact ih (by omega)

noncomputable def lsQuo : Nat → St → Option LRes := fun id s => match id, s.tm.get 0 with
  | 0, .str t => some ⟨([34] ++ escL t, 0 == t.length), fun y => .one { keep := [0, 3, 4] } (stQ t [34] 0 true) (.exit 0) (stQ t y.1 t.length y.2)⟩
  | _, _ => none

set_option maxRecDepth 100000 in
theorem quoteT (t : List UInt8) : fnT { P := Try.prog, vw := vwA, res := res0, ls := lsQuo } 0 fQuote [.str t] [] =
  T.bind ([(34 : UInt8)] ++ escL t, 0 == List.length t) fun y0 =>
    T.need
      [St.mk (mkTm 35 [(0, V.str t), (3, V.sl 0 0 1 true), (4, V.int IntKind.i64 (0 : Int))]) [some ([V.sld [V.int IntKind.u8 (34 : Int)]], 5)] [] =
          St.mk (mkTm 35 [(0, V.str t), (3, V.sl 0 0 1 true), (4, V.int IntKind.i64 (0 : Int))]) [some ([V.sld [V.int IntKind.u8 (34 : Int)]], 5)] [],
        SoundC (Env.P (Env.mk Try.prog vwA res0 lsQuo [])) 0 (blk Try.prog fQuote 0)
          (St.mk (mkTm 35 [(0, V.str t), (3, V.sl 0 0 1 true), (4, V.int IntKind.i64 (0 : Int))]) [some ([V.sld [V.int IntKind.u8 (34 : Int)]], 5)] [])
          (Ex.exit 0)
          (St.mk (mkTm 35 [(0, V.str t), (3, V.sl 0 0 (List.length (Prod.fst y0)) (Prod.snd y0)), (4, V.int IntKind.i64 (↑(List.length t) : Int))]) [bytB (Prod.fst y0)] [])]
      (T.need
        [0 = 0, List.length (encs encByte (Prod.fst y0)) = List.length (Prod.fst y0) * 1, List.length (Prod.fst y0) + 1 ≤ 9223372036854775807,
          (List.length (Prod.fst y0) + 1) * 1 ≤ 140737488355328]
        (T.need
          [encs encByte (Prod.fst y0) = byts (decL encByte (encs encByte (Prod.fst y0))), (0 : Int) ≤ (34 : Int) ∧ (34 : Int) < (256 : Int), 0 = 0,
            List.length (decL encByte (encs encByte (Prod.fst y0)) ++ [(34 : UInt8)]) = List.length (Prod.fst y0) + 1]
          (T.done (Ret.mk (V.str (decL encByte (encs encByte (Prod.fst y0)) ++ [(34 : UInt8)])) [] [])))) := (T.force_eq _).symm.trans (by kernel_rfl)

theorem escL_len (t : List UInt8) : (escL t).length ≤ 2 * t.length := by
  induction t with
  | nil => simp [escL]
  | cons c t ih =>
    rw [escL_cons]
    have : (escB c).length ≤ 2 := by
      unfold escB; split
      · simp
      · split <;> simp
    rw [List.length_append, List.length_cons]; omega
theorem quo_len (t : List UInt8) : (quo t).length ≤ 2 * t.length + 2 := by
  have := escL_len t
  simp [quo]; omega
theorem quote_ok (t : List UInt8) (ht : t.length ≤ 1048576) : FnOK Try.prog fQuote [.str t] [] ⟨.str (quo t), [], []⟩ := by
  refine fnOK_TL (E := { P := Try.prog, vw := vwA, res := res0, ls := lsQuo }) follows named (quoteT t) (by simp) ?_
  simp only [WP_cond, T.WP, All, decide_eq_true_eq, decide_eq_false_iff_not, and_true, beq_iff_eq, beq_eq_false_iff_ne, ne_eq]
  rintro y rfl
  have h0 := quo_loop t ht t.length [34] 0 true (by omega) (by simp; omega)
  rw [List.drop_zero] at h0
  have hl := escL_len t
  rw [layByte.decL, byts_encs, layByte.length]
  refine ⟨⟨trivial, .loopTo h0⟩, ⟨trivial, rfl, ?_, ?_⟩, ⟨rfl, by omega, trivial, by simp⟩, ⟨rfl, rfl, by simp⟩⟩
  · simp only [List.length_append, List.length_cons, List.length_nil]; omega
  · simp only [List.length_append, List.length_cons, List.length_nil]; omega

end Go.Proofs.Ytopebociobgmhaa

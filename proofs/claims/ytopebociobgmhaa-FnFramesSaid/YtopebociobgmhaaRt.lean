/-
  The law's helpers: a number, two lists of texts.
-/
import Derived.Test.YtopebociobgmhaaRs
namespace Go.Proofs.Ytopebociobgmhaa
open Go.RowKit

abbrev fAt : Nat := 25
abbrev fSame : Nat := 26
set_option maxRecDepth 100000 in
theorem atT (l : List UInt8) (i n : Int) : fnT E0 0 fAt [sls encByte l, .int .i64 i, .int .i64 n] [] =
  bif decide (n ≤ (1 : Int)) then T.done (Ret.mk (V.int IntKind.i64 (0 : Int)) [] [])
  else
    bif (↑(List.length l) : Int) == (0 : Int) then T.need [n ≠ (0 : Int)] (T.done (Ret.mk (V.int IntKind.i64 (Int.tmod (IntKind.wrap IntKind.i64 (i * (7 : Int))) n)) [] []))
    else
      T.need [(↑(List.length l) : Int) ≠ (0 : Int)]
        (T.need
          [(0 : Int) ≤ Int.tmod i (↑(List.length l) : Int) ∧ Int.tmod i (↑(List.length l) : Int) < (↑(List.length l) : Int),
            List.take 1 (List.drop (Int.toNat (Int.tmod i (↑(List.length l) : Int)) * 1) (encs encByte l)) =
              [V.int IntKind.u8 (↑(UInt8.toNat (List.getD (decL encByte (encs encByte l)) (Int.toNat (Int.tmod i (↑(List.length l) : Int))) (0 : UInt8))) : Int)]]
          (T.need [(↑(List.length l) : Int) ≠ (0 : Int)]
            (T.need
              [(0 : Int) ≤ Int.tmod (IntKind.wrap IntKind.i64 (i + (1 : Int))) (↑(List.length l) : Int) ∧ Int.tmod (IntKind.wrap IntKind.i64 (i + (1 : Int))) (↑(List.length l) : Int) < (↑(List.length l) : Int),
                List.take 1 (List.drop (Int.toNat (Int.tmod (IntKind.wrap IntKind.i64 (i + (1 : Int))) (↑(List.length l) : Int)) * 1) (encs encByte l)) =
                  [V.int IntKind.u8 (↑(UInt8.toNat (List.getD (decL encByte (encs encByte l)) (Int.toNat (Int.tmod (IntKind.wrap IntKind.i64 (i + (1 : Int))) (↑(List.length l) : Int))) (0 : UInt8))) : Int)]]
              (T.need [(↑(List.length l) : Int) ≠ (0 : Int)]
                (T.need [n ≠ (0 : Int)]
                  (T.done
                    (Ret.mk
                      (V.int IntKind.i64
                        (Int.tmod
                          (IntKind.wrap IntKind.i64
                            (IntKind.wrap IntKind.i64
                                (IntKind.wrap IntKind.i64
                                    (IntKind.wrap IntKind.i64 (↑(UInt8.toNat (List.getD (decL encByte (encs encByte l)) (Int.toNat (Int.tmod i (↑(List.length l) : Int))) (0 : UInt8))) : Int) * (31 : Int)) +
                                  IntKind.wrap IntKind.i64
                                    (↑(UInt8.toNat (List.getD (decL encByte (encs encByte l)) (Int.toNat (Int.tmod (IntKind.wrap IntKind.i64 (i + (1 : Int))) (↑(List.length l) : Int))) (0 : UInt8))) : Int)) +
                              IntKind.wrap IntKind.i64 (Int.tdiv i (↑(List.length l) : Int))))
                          n))
                      [] []))))))) := by kernel_rfl
noncomputable def stS2 (A B : List (List UInt8)) (i : Int) : St := ⟨mkTm 26 [(0, sls encStr A), (1, sls encStr B), (4, .bool false), (5, .int .i64 i)], [], []⟩
def nfS2 : Ex → Kp := fun ex => match ex with
  | .ret => { keep := [4] }
  | _ => { keep := [0, 1, 4, 5] }
set_option maxRecDepth 100000 in
theorem same1T (A B : List (List UInt8)) (i : Int) : bodyT E0 0 nfS2 (lp Try.prog fSame 0) (stS2 A B i) =
  bif decide (i < (↑(List.length A) : Int)) then
    T.need [(0 : Int) ≤ i ∧ i < (↑(List.length A) : Int), List.take 1 (List.drop (Int.toNat i * 1) (encs encStr A)) = [V.str (List.getD (decL encStr (encs encStr A)) (Int.toNat i) [])]]
      (T.need [(0 : Int) ≤ i ∧ i < (↑(List.length B) : Int), List.take 1 (List.drop (Int.toNat i * 1) (encs encStr B)) = [V.str (List.getD (decL encStr (encs encStr B)) (Int.toNat i) [])]]
        (bif !List.getD (decL encStr (encs encStr A)) (Int.toNat i) [] == List.getD (decL encStr (encs encStr B)) (Int.toNat i) [] then T.done (Ex.ret, St.mk (mkTm 26 [(4, V.bool false)]) [] [])
        else
          T.done
            (Ex.normal,
              St.mk
                (mkTm 26
                  [(0, V.dsl (List.length A) false (encs encStr A)), (1, V.dsl (List.length B) false (encs encStr B)), (4, V.bool false),
                    (5, V.int IntKind.i64 (IntKind.wrap IntKind.i64 (i + (1 : Int))))])
                [] [])))
  else
    T.done
      (Ex.exit 0,
        St.mk (mkTm 26 [(0, V.dsl (List.length A) false (encs encStr A)), (1, V.dsl (List.length B) false (encs encStr B)), (4, V.bool false), (5, V.int IntKind.i64 i)]) [] []) := by kernel_rfl

def atN (l : List UInt8) (i : Nat) : Nat := if l.length = 0 then i * 7 else (l.getD (i % l.length) 0).toNat * 31 + (l.getD ((i + 1) % l.length) 0).toNat + i / l.length
def atF (l : List UInt8) (i : Nat) (n : Int) : Int := if n ≤ 1 then 0 else ((atN l i % n.toNat : Nat) : Int)
theorem atF_bd (l : List UInt8) (i : Nat) {n : Int} (h : 1 ≤ n) : 0 ≤ atF l i n ∧ atF l i n < n := by
  unfold atF
  split
  · omega
  · have := Nat.mod_lt (atN l i) (show 0 < n.toNat by omega)
    omega
theorem atN_bd (l : List UInt8) (i : Nat) (hi : i ≤ 1000) : atN l i ≤ 100000 := by
  unfold atN
  split
  · omega
  · have h1 := (l.getD (i % l.length) 0).toNat_lt
    have h2 := (l.getD ((i + 1) % l.length) 0).toNat_lt
    have h3 := Nat.div_le_self i l.length
    omega
theorem tmodN (a : Nat) {n : Int} (h : 1 ≤ n) : (a : Int).tmod n = ((a % n.toNat : Nat) : Int) := by
  have : n = ((n.toNat : Nat) : Int) := by omega
  rw [this, Int.ofNat_tmod]; simp
theorem at_ok (l : List UInt8) (i : Nat) (hi : i ≤ 1000) (n : Int) (hn : 1 ≤ n) : FnOK Try.prog fAt [sls encByte l, .int .i64 i, .int .i64 n] [] ⟨.int .i64 (atF l i n), [], []⟩ := by
  refine fnOK_TL (E := E0) follows named (atT l i n) (by simp) ?_
  have hb := atN_bd l i hi
  simp only [WP_cond, T.WP, All, decide_eq_true_eq, decide_eq_false_iff_not, and_true, beq_iff_eq, beq_eq_false_iff_ne, ne_eq, layByte.decL, gt_iff_lt]
  refine ⟨fun h => ⟨?_, rfl, by simp⟩, fun h => ⟨fun h0 => ⟨by omega, ?_, rfl, by simp⟩, fun h0 => ?_⟩⟩
  · show V.int _ _ = V.int _ _
    rw [atF, if_pos h]
  · show V.int _ _ = V.int _ _
    have h0' : l.length = 0 := by omega
    rw [atF, if_neg h, atN, if_pos h0', wrap_id (by omega), show (i : Int) * 7 = ((i * 7 : Nat) : Int) by omega, tmodN _ hn]
  · have h0' : ¬ l.length = 0 := by omega
    have m1 := Nat.mod_lt i (show 0 < l.length by omega)
    have m2 := Nat.mod_lt (i + 1) (show 0 < l.length by omega)
    have a1 := layByte.at l 0 (i % l.length) 1 m1 rfl
    have a2 := layByte.at l 0 ((i + 1) % l.length) 1 m2 rfl
    have c1 := (l.getD (i % l.length) 0).toNat_lt
    have c2 := (l.getD ((i + 1) % l.length) 0).toNat_lt
    have c3 := Nat.div_le_self i l.length
    rw [wrap_id (show -9223372036854775808 ≤ (i : Int) + 1 ∧ (i : Int) + 1 ≤ 9223372036854775807 by omega), show (i : Int) + 1 = ((i + 1 : Nat) : Int) by omega, ← Int.ofNat_tmod, ← Int.ofNat_tmod, ← Int.ofNat_tdiv]
    simp only [Int.toNat_natCast]
    refine ⟨h0, ⟨by omega, a1⟩, h0, ⟨by omega, a2⟩, h0, by omega, ?_, rfl, by simp⟩
    show V.int _ _ = V.int _ _
    rw [atF, if_neg h, atN, if_neg h0']
    generalize (l.getD (i % l.length) 0).toNat = u at *
    generalize (l.getD ((i + 1) % l.length) 0).toNat = v at *
    generalize i / l.length = w at *
    rw [wrap_id (n := (u : Int)) (by omega), wrap_id (n := (v : Int)) (by omega), wrap_id (n := (w : Int)) (by omega), wrap_id (n := (u : Int) * 31) (by omega), wrap_id (n := (u : Int) * 31 + v) (by omega), wrap_id (n := (u : Int) * 31 + v + w) (by omega), ← tmodN _ hn]
    congr 1

theorem same_end (A : List (List UInt8)) (i : Nat) (h : A.length ≤ i) : LoopTo Try.prog 0 (lp Try.prog fSame 0) (stS2 A A i) (.exit 0) (stS2 A A i) := by
  refine loopT (E := E0) follows named (same1T A A i) ?_
  simp only [WP_cond, T.WP, All, decide_eq_true_eq, decide_eq_false_iff_not, and_true, beq_iff_eq, beq_eq_false_iff_ne, ne_eq]
  exact ⟨fun h => by omega, fun _ => ⟨rfl, rfl⟩⟩
theorem same_loop (A : List (List UInt8)) (hl : A.length ≤ 4294967296) : ∀ (m i : Nat), i + m = A.length → LoopTo Try.prog 0 (lp Try.prog fSame 0) (stS2 A A i) (.exit 0) (stS2 A A A.length)
  | 0, i, h => by
    obtain rfl : i = A.length := h
    exact same_end A _ (Nat.le_refl _)
  | m + 1, i, h => by
    refine loopT (E := E0) follows named (same1T A A i) ?_
    have hat := layStr.at A [] i 1 (by omega) rfl
    simp only [WP_cond, T.WP, All, decide_eq_true_eq, decide_eq_false_iff_not, and_true, beq_iff_eq, beq_eq_false_iff_ne, ne_eq, Int.toNat_natCast, layStr.decL, wrap_succ (show i < 9223372036854775807 by omega)]
    refine ⟨fun _ => ⟨⟨by omega, hat⟩, ⟨by omega, hat⟩, fun h => ?_, fun _ => ?_⟩, fun h => by omega⟩
    · simp at h
    · exact same_loop A hl m (i + 1) (by omega)

noncomputable def lsSame : Nat → St → Option LRes := fun id s => match id, s.tm.get 0, s.tm.get 1 with
  | 0, .dsl _ _ cs, .dsl _ _ ds => some ⟨(), fun _ => .one { keep := [0, 1, 4, 5] } (stS2 (decL encStr cs) (decL encStr ds) 0) (.exit 0) (stS2 (decL encStr cs) (decL encStr ds) (decL encStr cs).length)⟩
  | _, _, _ => none
set_option maxRecDepth 100000 in
theorem sameT (A B : List (List UInt8)) : fnT { P := Try.prog, vw := vwA, res := res0, ls := lsSame } 0 fSame [sls encStr A, sls encStr B] [] =
  bif (↑(List.length A) : Int) != (↑(List.length B) : Int) then T.done (Ret.mk (V.bool false) [] [])
  else
    T.bind PUnit.unit fun y0 =>
      T.need
        [St.mk (mkTm 26 [(0, V.dsl (List.length A) false (encs encStr A)), (1, V.dsl (List.length B) false (encs encStr B)), (4, V.bool false), (5, V.int IntKind.i64 (0 : Int))]) []
              [] =
            St.mk
              (mkTm 26
                [(0, V.dsl (List.length (decL encStr (encs encStr A))) false (encs encStr (decL encStr (encs encStr A)))),
                  (1, V.dsl (List.length (decL encStr (encs encStr B))) false (encs encStr (decL encStr (encs encStr B)))), (4, V.bool false), (5, V.int IntKind.i64 (0 : Int))])
              [] [],
          SoundC (Env.P (Env.mk Try.prog vwA res0 lsSame [])) 0 (blk Try.prog fSame 0)
            (St.mk
              (mkTm 26
                [(0, V.dsl (List.length (decL encStr (encs encStr A))) false (encs encStr (decL encStr (encs encStr A)))),
                  (1, V.dsl (List.length (decL encStr (encs encStr B))) false (encs encStr (decL encStr (encs encStr B)))), (4, V.bool false), (5, V.int IntKind.i64 (0 : Int))])
              [] [])
            (Ex.exit 0)
            (St.mk
              (mkTm 26
                [(0, V.dsl (List.length (decL encStr (encs encStr A))) false (encs encStr (decL encStr (encs encStr A)))),
                  (1, V.dsl (List.length (decL encStr (encs encStr B))) false (encs encStr (decL encStr (encs encStr B)))), (4, V.bool false),
                  (5, V.int IntKind.i64 (↑(List.length (decL encStr (encs encStr A))) : Int))])
              [] [])]
        (T.done (Ret.mk (V.bool true) [] [])) := by kernel_rfl
theorem same_ok (A : List (List UInt8)) (hl : A.length ≤ 4294967296) : FnOK Try.prog fSame [sls encStr A, sls encStr A] [] ⟨.bool true, [], []⟩ := by
  refine fnOK_TL (E := { P := Try.prog, vw := vwA, res := res0, ls := lsSame }) follows named (sameT A A) (by simp) ?_
  simp only [WP_cond, T.WP, All, decide_eq_true_eq, decide_eq_false_iff_not, and_true, beq_iff_eq, beq_eq_false_iff_ne, ne_eq, layStr.decL]
  refine ⟨fun h => by simp at h, fun _ => ?_⟩
  intro y _
  exact ⟨⟨trivial, .loopTo (same_loop A hl A.length 0 (by omega))⟩, ⟨rfl, rfl, by simp⟩⟩

end Go.Proofs.Ytopebociobgmhaa

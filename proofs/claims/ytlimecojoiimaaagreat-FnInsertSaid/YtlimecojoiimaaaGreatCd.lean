/-
  FnInsert: the numbers that the law draws; results by the place of the call.
-/
import Derived.Test.YtlimecojoiimaaaGreatCc
namespace Go.Proofs.YtlimecojoiimaaaGreat
open Go.RowKit

def spOf (tab : List (Nat × Nat × Ret)) : Nat → Nat → FuncId → List V → Hp → Option (Bool × Ret × Ret) := fun r i _ _ _ => match tab.find? (fun e => Nat.beq e.1 r && Nat.beq e.2.1 i) with
  | some e => some (true, e.2.2, e.2.2)
  | none => none

noncomputable def vwU : Vw := fun t cs i => bif Nat.beq t 5 then some (encByte ((decL encByte cs).getD i 0)) else none
noncomputable def EU : Env := { P := Tryz.prog, vw := vwU, res := fun _ _ _ => none }
set_option maxRecDepth 100000 in
theorem atT (l : List UInt8) (i n : Int) : fnT EU 0 fAt [sls encByte l, .int .i64 i, .int .i64 n] [] =
  bif decide (n ≤ (1 : Int)) then T.done (Ret.mk (V.int IntKind.i64 (0 : Int)) [] [])
  else
    bif (↑(List.length l) : Int) == (0 : Int) then T.need [n ≠ (0 : Int)] (T.done (Ret.mk (V.int IntKind.i64 (Int.tmod (IntKind.wrap IntKind.i64 (i * (7 : Int))) n)) [] []))
    else
      T.need [(↑(List.length l) : Int) ≠ (0 : Int)]
        (T.need
          [(0 : Int) ≤ Int.tmod i (↑(List.length l) : Int) ∧ Int.tmod i (↑(List.length l) : Int) < (↑(List.length l) : Int),
            List.take 1 (List.drop (Int.toNat (Int.tmod i (↑(List.length l) : Int)) * 1) (encs encByte l)) =
              [V.int IntKind.u8 (↑(UInt8.toNat (List.getD (decL encByte (encs encByte l)) (Int.toNat (Int.tmod i (↑(List.length l) : Int))) (0 : UInt8))) : Int)]]
          (T.need [(↑(List.length l) : Int) ≠ (0 : Int)]
            (T.need
              [(0 : Int) ≤ Int.tmod (IntKind.wrap IntKind.i64 (i + (1 : Int))) (↑(List.length l) : Int) ∧ Int.tmod (IntKind.wrap IntKind.i64 (i + (1 : Int))) (↑(List.length l) : Int) < (↑(List.length l) : Int),
                List.take 1 (List.drop (Int.toNat (Int.tmod (IntKind.wrap IntKind.i64 (i + (1 : Int))) (↑(List.length l) : Int)) * 1) (encs encByte l)) =
                  [V.int IntKind.u8 (↑(UInt8.toNat (List.getD (decL encByte (encs encByte l)) (Int.toNat (Int.tmod (IntKind.wrap IntKind.i64 (i + (1 : Int))) (↑(List.length l) : Int))) (0 : UInt8))) : Int)]]
              (T.need [(↑(List.length l) : Int) ≠ (0 : Int)]
                (T.need [n ≠ (0 : Int)]
                  (T.done
                    (Ret.mk
                      (V.int IntKind.i64
                        (Int.tmod
                          (IntKind.wrap IntKind.i64
                            (IntKind.wrap IntKind.i64
                                (IntKind.wrap IntKind.i64
                                    (IntKind.wrap IntKind.i64 (↑(UInt8.toNat (List.getD (decL encByte (encs encByte l)) (Int.toNat (Int.tmod i (↑(List.length l) : Int))) (0 : UInt8))) : Int) * (31 : Int)) +
                                  IntKind.wrap IntKind.i64
                                    (↑(UInt8.toNat (List.getD (decL encByte (encs encByte l)) (Int.toNat (Int.tmod (IntKind.wrap IntKind.i64 (i + (1 : Int))) (↑(List.length l) : Int))) (0 : UInt8))) : Int)) +
                              IntKind.wrap IntKind.i64 (Int.tdiv i (↑(List.length l) : Int))))
                          n))
                      [] []))))))) := by kernel_rfl

def atN (l : List UInt8) (i : Nat) : Nat := if l.length = 0 then i * 7 else (l.getD (i % l.length) 0).toNat * 31 + (l.getD ((i + 1) % l.length) 0).toNat + i / l.length
def atF (l : List UInt8) (i : Nat) (n : Int) : Int := if n ≤ 1 then 0 else ((atN l i % n.toNat : Nat) : Int)
theorem atF_bd (l : List UInt8) (i : Nat) {n : Int} (h : 1 ≤ n) : 0 ≤ atF l i n ∧ atF l i n < n := by
  unfold atF
  split
  · omega
  · have := Nat.mod_lt (atN l i) (show 0 < n.toNat by omega)
    omega
theorem atN_bd (l : List UInt8) (i : Nat) (hi : i ≤ 1000) : atN l i ≤ 100000 := by
  unfold atN
  split
  · omega
  · have h1 := (l.getD (i % l.length) 0).toNat_lt
    have h2 := (l.getD ((i + 1) % l.length) 0).toNat_lt
    have h3 := Nat.div_le_self i l.length
    omega
theorem tmodN (a : Nat) {n : Int} (h : 1 ≤ n) : (a : Int).tmod n = ((a % n.toNat : Nat) : Int) := by
  have : n = ((n.toNat : Nat) : Int) := by omega
  rw [this, Int.ofNat_tmod]; simp
theorem at_ok (l : List UInt8) (i : Nat) (hi : i ≤ 1000) (n : Int) (hn : 1 ≤ n) : FnOK Tryz.prog fAt [sls encByte l, .int .i64 i, .int .i64 n] [] ⟨.int .i64 (atF l i n), [], []⟩ := by
  refine fnOK_TL (E := EU) follows named (atT l i n) (by simp) ?_
  have hb := atN_bd l i hi
  simp only [WP_cond, T.WP, All, decide_eq_true_eq, decide_eq_false_iff_not, and_true, beq_iff_eq, beq_eq_false_iff_ne, ne_eq, layByte.decL, gt_iff_lt]
  refine ⟨fun h => ⟨?_, rfl, by simp⟩, fun h => ⟨fun h0 => ⟨by omega, ?_, rfl, by simp⟩, fun h0 => ?_⟩⟩
  · show V.int _ _ = V.int _ _
    rw [atF, if_pos h]
  · show V.int _ _ = V.int _ _
    have h0' : l.length = 0 := by omega
    rw [atF, if_neg h, atN, if_pos h0', wrap_id (by omega), show (i : Int) * 7 = ((i * 7 : Nat) : Int) by omega, tmodN _ hn]
  · have h0' : ¬ l.length = 0 := by omega
    have m1 := Nat.mod_lt i (show 0 < l.length by omega)
    have m2 := Nat.mod_lt (i + 1) (show 0 < l.length by omega)
    have a1 := layByte.at l 0 (i % l.length) 1 m1 rfl
    have a2 := layByte.at l 0 ((i + 1) % l.length) 1 m2 rfl
    have c1 := (l.getD (i % l.length) 0).toNat_lt
    have c2 := (l.getD ((i + 1) % l.length) 0).toNat_lt
    have c3 := Nat.div_le_self i l.length
    rw [wrap_id (show -9223372036854775808 ≤ (i : Int) + 1 ∧ (i : Int) + 1 ≤ 9223372036854775807 by omega), show (i : Int) + 1 = ((i + 1 : Nat) : Int) by omega, ← Int.ofNat_tmod, ← Int.ofNat_tmod, ← Int.ofNat_tdiv]
    simp only [Int.toNat_natCast]
    refine ⟨h0, ⟨by omega, a1⟩, h0, ⟨by omega, a2⟩, h0, by omega, ?_, rfl, by simp⟩
    show V.int _ _ = V.int _ _
    rw [atF, if_neg h, atN, if_neg h0']
    generalize (l.getD (i % l.length) 0).toNat = u at *
    generalize (l.getD ((i + 1) % l.length) 0).toNat = v at *
    generalize i / l.length = w at *
    rw [wrap_id (n := (u : Int)) (by omega), wrap_id (n := (v : Int)) (by omega), wrap_id (n := (w : Int)) (by omega), wrap_id (n := (u : Int) * 31) (by omega), wrap_id (n := (u : Int) * 31 + v) (by omega), wrap_id (n := (u : Int) * 31 + v + w) (by omega), ← tmodN _ hn]
    congr 1


end Go.Proofs.YtlimecojoiimaaaGreat

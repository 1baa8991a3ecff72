/-
  The source of choices, by trees.
-/
import Derived.Test.YtopebociobgmhaaRc
namespace Go.Proofs.Ytopebociobgmhaa
open Go.RowKit

def res0 : ResT := fun _ _ _ => none
/-- One table behind the other. -/
def ResT.or (a b : ResT) : ResT := fun f vs hp => match a f vs hp with
  | some r => some r
  | none => b f vs hp
noncomputable def E0 : Env := { P := Try.prog, vw := vwA, res := res0 }
abbrev fByte : Nat := 42
abbrev tSrc : Nat := 59

/-- A source of choices: its code, where it stands, its seed. -/
structure Src where
  l : List UInt8
  k : Nat
  s : Int
/-- It may be asked c times more. -/
structure Src.OK (x : Src) (c : Nat) : Prop where
  hl : x.l.length ≤ 1048576
  hk : x.k + c ≤ 1099511627776
  h0 : 0 ≤ x.s
  h1 : x.s < 2147483648
def srcB (x : Src) : Option Blk := some ([sls encByte x.l, .int .i64 x.k, .int .i64 x.s], tSrc)

def byteF (x : Src) : Int × Src :=
  if x.k + 1 ≤ x.l.length then ((x.l.getD x.k 0).toNat, ⟨x.l, x.k + 1, (x.s * 31 + (x.l.getD x.k 0).toNat + 7).tmod 2147483648⟩)
  else if 3000 < x.k + 1 then (0, ⟨x.l, x.k + 1, x.s⟩)
  else ((((x.s * 1103515245 + 12345).tmod 2147483648).tdiv 65536).tmod 256, ⟨x.l, x.k + 1, (x.s * 1103515245 + 12345).tmod 2147483648⟩)

theorem tmod_bd (a : Int) (h : 0 ≤ a) : 0 ≤ a.tmod 2147483648 ∧ a.tmod 2147483648 < 2147483648 := ⟨Int.tmod_nonneg _ h, Int.tmod_lt_of_pos _ (by omega)⟩

theorem byteF_ok {x : Src} {c : Nat} (h : x.OK (c + 1)) : (byteF x).2.OK c ∧ 0 ≤ (byteF x).1 ∧ (byteF x).1 < 256 := by
  obtain ⟨hl, hk, h0, h1⟩ := h
  unfold byteF
  split
  · have hb := (x.l.getD x.k 0).toNat_lt
    exact ⟨⟨hl, by simp only; omega, (tmod_bd _ (by omega)).1, (tmod_bd _ (by omega)).2⟩, by simp only; omega, by simp only; omega⟩
  · split
    · exact ⟨⟨hl, by simp only; omega, h0, h1⟩, by simp, by simp⟩
    · have hb := tmod_bd (x.s * 1103515245 + 12345) (by omega)
      have hq := Int.tdiv_nonneg hb.1 (show (0 : Int) ≤ 65536 by omega)
      exact ⟨⟨hl, by simp only; omega, hb.1, hb.2⟩, Int.tmod_nonneg _ hq, Int.tmod_lt_of_pos _ (by omega)⟩

set_option maxRecDepth 100000 in
theorem byteT (x : Src) : fnT E0 0 fByte [.ptr 0 0] [srcB x] =
  bif decide (IntKind.wrap IntKind.i64 ((↑(Src.k x) : Int) + (1 : Int)) ≤ (↑(List.length (Src.l x)) : Int)) then
    T.need
      [(0 : Int) ≤ IntKind.wrap IntKind.i64 (IntKind.wrap IntKind.i64 ((↑(Src.k x) : Int) + (1 : Int)) - (1 : Int)) ∧
          IntKind.wrap IntKind.i64 (IntKind.wrap IntKind.i64 ((↑(Src.k x) : Int) + (1 : Int)) - (1 : Int)) < (↑(List.length (Src.l x)) : Int),
        List.take 1 (List.drop (Int.toNat (IntKind.wrap IntKind.i64 (IntKind.wrap IntKind.i64 ((↑(Src.k x) : Int) + (1 : Int)) - (1 : Int))) * 1) (encs encByte (Src.l x))) =
          [V.int IntKind.u8
              (↑(UInt8.toNat (List.getD (decL encByte (encs encByte (Src.l x))) (Int.toNat (IntKind.wrap IntKind.i64 (IntKind.wrap IntKind.i64 ((↑(Src.k x) : Int) + (1 : Int)) - (1 : Int)))) (0 : UInt8))) : Int)]]
      (T.need [(2147483648 : Int) ≠ (0 : Int)]
        (T.need
          [(0 : Int) ≤ IntKind.wrap IntKind.i64 (IntKind.wrap IntKind.i64 ((↑(Src.k x) : Int) + (1 : Int)) - (1 : Int)) ∧
              IntKind.wrap IntKind.i64 (IntKind.wrap IntKind.i64 ((↑(Src.k x) : Int) + (1 : Int)) - (1 : Int)) < (↑(List.length (Src.l x)) : Int),
            List.take 1 (List.drop (Int.toNat (IntKind.wrap IntKind.i64 (IntKind.wrap IntKind.i64 ((↑(Src.k x) : Int) + (1 : Int)) - (1 : Int))) * 1) (encs encByte (Src.l x))) =
              [V.int IntKind.u8
                  (↑(UInt8.toNat (List.getD (decL encByte (encs encByte (Src.l x))) (Int.toNat (IntKind.wrap IntKind.i64 (IntKind.wrap IntKind.i64 ((↑(Src.k x) : Int) + (1 : Int)) - (1 : Int)))) (0 : UInt8))) : Int)]]
          (T.done
            (Ret.mk
              (V.int IntKind.i64
                (IntKind.wrap IntKind.i64
                  (↑(UInt8.toNat (List.getD (decL encByte (encs encByte (Src.l x))) (Int.toNat (IntKind.wrap IntKind.i64 (IntKind.wrap IntKind.i64 ((↑(Src.k x) : Int) + (1 : Int)) - (1 : Int)))) (0 : UInt8))) : Int)))
              [some
                  ([V.dsl (List.length (Src.l x)) false (encs encByte (Src.l x)), V.int IntKind.i64 (IntKind.wrap IntKind.i64 ((↑(Src.k x) : Int) + (1 : Int))),
                      V.int IntKind.i64
                        (Int.tmod
                          (IntKind.wrap IntKind.i64
                            (IntKind.wrap IntKind.i64
                                (IntKind.wrap IntKind.i64 (Src.s x * (31 : Int)) +
                                  IntKind.wrap IntKind.i64
                                    (↑(UInt8.toNat
                                          (List.getD (decL encByte (encs encByte (Src.l x))) (Int.toNat (IntKind.wrap IntKind.i64 (IntKind.wrap IntKind.i64 ((↑(Src.k x) : Int) + (1 : Int)) - (1 : Int)))) (0 : UInt8))) :
                                      Int)) +
                              (7 : Int)))
                          (2147483648 : Int))],
                    59)]
              [0]))))
  else
    bif decide (IntKind.wrap IntKind.i64 ((↑(Src.k x) : Int) + (1 : Int)) > (3000 : Int)) then
      T.done
        (Ret.mk (V.int IntKind.i64 (0 : Int))
          [some ([V.dsl (List.length (Src.l x)) false (encs encByte (Src.l x)), V.int IntKind.i64 (IntKind.wrap IntKind.i64 ((↑(Src.k x) : Int) + (1 : Int))), V.int IntKind.i64 (Src.s x)], 59)] [0])
    else
      T.need [(2147483648 : Int) ≠ (0 : Int)]
        (T.need [(65536 : Int) ≠ (0 : Int)]
          (T.need [(256 : Int) ≠ (0 : Int)]
            (T.done
              (Ret.mk
                (V.int IntKind.i64
                  (Int.tmod (IntKind.wrap IntKind.i64 (Int.tdiv (Int.tmod (IntKind.wrap IntKind.i64 (IntKind.wrap IntKind.i64 (Src.s x * (1103515245 : Int)) + (12345 : Int))) (2147483648 : Int)) (65536 : Int)))
                    (256 : Int)))
                [some
                    ([V.dsl (List.length (Src.l x)) false (encs encByte (Src.l x)), V.int IntKind.i64 (IntKind.wrap IntKind.i64 ((↑(Src.k x) : Int) + (1 : Int))),
                        V.int IntKind.i64 (Int.tmod (IntKind.wrap IntKind.i64 (IntKind.wrap IntKind.i64 (Src.s x * (1103515245 : Int)) + (12345 : Int))) (2147483648 : Int))],
                      59)]
                [0])))) := by kernel_rfl

theorem byte_ok (x : Src) {c : Nat} (h : x.OK (c + 1)) : FnOK Try.prog fByte [.ptr 0 0] [srcB x] ⟨.int .i64 (byteF x).1, [srcB (byteF x).2], [0]⟩ := by
  refine fnOK_T (E := E0) follows named (byteT x) ?_
  obtain ⟨hl, hk, h0, h1⟩ := h
  have hb := (x.l.getD x.k 0).toNat_lt
  have hw : IntKind.i64.wrap ((x.k : Int) + 1) = ((x.k + 1 : Nat) : Int) := wrap_succ (by omega)
  have hw2 : IntKind.i64.wrap (((x.k + 1 : Nat) : Int) - 1) = (x.k : Int) := by rw [wrap_id (by omega)]; omega
  simp only [WP_cond, T.WP, All, decide_eq_true_eq, decide_eq_false_iff_not, and_true, layByte.decL, hw, hw2, Int.toNat_natCast, byteF, srcB]
  refine ⟨fun hc => ?_, fun hc => ⟨fun hd => ?_, fun hd => ?_⟩⟩
  · rw [if_pos (by omega)]
    refine ⟨⟨by omega, layByte.at x.l 0 x.k 1 (by omega) rfl⟩, by omega, ⟨by omega, layByte.at x.l 0 x.k 1 (by omega) rfl⟩, ?_⟩
    simp (disch := omega) only [wrap_id]
  · rw [if_neg (by omega), if_pos (by omega)]
  · rw [if_neg (by omega), if_neg (by omega)]
    have hb := tmod_bd (x.s * 1103515245 + 12345) (by omega)
    have hq := Int.tdiv_nonneg hb.1 (show (0 : Int) ≤ 65536 by omega)
    have hq2 := Int.tdiv_le_self 65536 hb.1
    refine ⟨by omega, by omega, by omega, ?_⟩
    simp (disch := omega) only [wrap_id]

/-- A source, as it lies in memory. -/
noncomputable def srcOf (cs : List V) (k s : Int) : Src := ⟨decL encByte cs, k.toNat, s⟩
theorem srcOf_mk (x : Src) : srcOf (encs encByte x.l) (x.k : Int) x.s = x := by
  unfold srcOf; rw [layByte.decL, Int.toNat_natCast]
abbrev fNext : Nat := 37
/-- What the functions of a source give. -/
noncomputable def resByte : ResT := fun f vs hp => match vs, hp with
  | [.ptr 0 0], [some ([.dsl _ _ cs, .int _ k, .int _ s], _)] => bif Nat.beq f fByte then some ⟨byteF (srcOf cs k s), fun y => ⟨.int .i64 y.1, [srcB y.2], [0]⟩⟩ else none
  | _, _ => none
noncomputable def E1 : Env := { P := Try.prog, vw := vwA, res := resByte }

def nextF (x : Src) (n : Int) : Int × Src :=
  if n ≤ 1 then (0, x)
  else if n ≤ 256 then ((byteF x).1.tmod n, (byteF x).2)
  else (((byteF x).1 * 65536 + (byteF (byteF x).2).1 * 256 + (byteF (byteF (byteF x).2).2).1).tmod n, (byteF (byteF (byteF x).2).2).2)
theorem Src.OK.less {x : Src} {c d : Nat} (h : x.OK c) (hd : d ≤ c) : x.OK d := ⟨h.hl, by have := h.hk; omega, h.h0, h.h1⟩
theorem nextF_ok {x : Src} {c : Nat} {n : Int} (h : x.OK (c + 3)) (hn : 1 ≤ n) : (nextF x n).2.OK c ∧ 0 ≤ (nextF x n).1 ∧ (nextF x n).1 < n := by
  have h1 := byteF_ok (c := c + 2) h
  have h2 := byteF_ok (c := c + 1) h1.1
  have h3 := byteF_ok (c := c) h2.1
  unfold nextF
  split
  · exact ⟨h.less (by omega), by simp, by simp only; omega⟩
  · split
    · exact ⟨h1.1.less (by omega), Int.tmod_nonneg _ h1.2.1, Int.tmod_lt_of_pos _ (by omega)⟩
    · exact ⟨h3.1, Int.tmod_nonneg _ (by omega), Int.tmod_lt_of_pos _ (by omega)⟩

set_option maxRecDepth 100000 in
theorem nextT (x : Src) (n : Int) : fnT E1 0 fNext [.ptr 0 0, .int .i64 n] [srcB x] =
  bif decide (n ≤ (1 : Int)) then
    T.done (Ret.mk (V.int IntKind.i64 (0 : Int)) [some ([V.dsl (List.length (Src.l x)) false (encs encByte (Src.l x)), V.int IntKind.i64 (↑(Src.k x) : Int), V.int IntKind.i64 (Src.s x)], 59)] [])
  else
    bif decide (n ≤ (256 : Int)) then
      T.bind (byteF (srcOf (encs encByte (Src.l x)) (↑(Src.k x) : Int) (Src.s x))) fun y0 =>
        T.need
          [FnOK (Env.P E1) 42 [V.ptr 0 0] [some ([V.dsl (List.length (Src.l x)) false (encs encByte (Src.l x)), V.int IntKind.i64 (↑(Src.k x) : Int), V.int IntKind.i64 (Src.s x)], 59)]
              (Ret.mk (V.int IntKind.i64 (Prod.fst y0))
                [some ([V.dsl (List.length (Src.l (Prod.snd y0))) false (encs encByte (Src.l (Prod.snd y0))), V.int IntKind.i64 (↑(Src.k (Prod.snd y0)) : Int), V.int IntKind.i64 (Src.s (Prod.snd y0))], 59)]
                [0])]
          (T.need [n ≠ (0 : Int)]
            (T.done
              (Ret.mk (V.int IntKind.i64 (Int.tmod (Prod.fst y0) n))
                [some ([V.dsl (List.length (Src.l (Prod.snd y0))) false (encs encByte (Src.l (Prod.snd y0))), V.int IntKind.i64 (↑(Src.k (Prod.snd y0)) : Int), V.int IntKind.i64 (Src.s (Prod.snd y0))], 59)]
                [0])))
    else
      T.bind (byteF (srcOf (encs encByte (Src.l x)) (↑(Src.k x) : Int) (Src.s x))) fun y1 =>
        T.need
          [FnOK (Env.P E1) 42 [V.ptr 0 0] [some ([V.dsl (List.length (Src.l x)) false (encs encByte (Src.l x)), V.int IntKind.i64 (↑(Src.k x) : Int), V.int IntKind.i64 (Src.s x)], 59)]
              (Ret.mk (V.int IntKind.i64 (Prod.fst y1))
                [some ([V.dsl (List.length (Src.l (Prod.snd y1))) false (encs encByte (Src.l (Prod.snd y1))), V.int IntKind.i64 (↑(Src.k (Prod.snd y1)) : Int), V.int IntKind.i64 (Src.s (Prod.snd y1))], 59)]
                [0])]
          (T.bind (byteF (srcOf (encs encByte (Src.l (Prod.snd y1))) (↑(Src.k (Prod.snd y1)) : Int) (Src.s (Prod.snd y1)))) fun y2 =>
            T.need
              [FnOK (Env.P E1) 42 [V.ptr 0 0]
                  [some ([V.dsl (List.length (Src.l (Prod.snd y1))) false (encs encByte (Src.l (Prod.snd y1))), V.int IntKind.i64 (↑(Src.k (Prod.snd y1)) : Int), V.int IntKind.i64 (Src.s (Prod.snd y1))], 59)]
                  (Ret.mk (V.int IntKind.i64 (Prod.fst y2))
                    [some ([V.dsl (List.length (Src.l (Prod.snd y2))) false (encs encByte (Src.l (Prod.snd y2))), V.int IntKind.i64 (↑(Src.k (Prod.snd y2)) : Int), V.int IntKind.i64 (Src.s (Prod.snd y2))], 59)]
                    [0])]
              (T.bind (byteF (srcOf (encs encByte (Src.l (Prod.snd y2))) (↑(Src.k (Prod.snd y2)) : Int) (Src.s (Prod.snd y2)))) fun y3 =>
                T.need
                  [FnOK (Env.P E1) 42 [V.ptr 0 0]
                      [some ([V.dsl (List.length (Src.l (Prod.snd y2))) false (encs encByte (Src.l (Prod.snd y2))), V.int IntKind.i64 (↑(Src.k (Prod.snd y2)) : Int), V.int IntKind.i64 (Src.s (Prod.snd y2))], 59)]
                      (Ret.mk (V.int IntKind.i64 (Prod.fst y3))
                        [some ([V.dsl (List.length (Src.l (Prod.snd y3))) false (encs encByte (Src.l (Prod.snd y3))), V.int IntKind.i64 (↑(Src.k (Prod.snd y3)) : Int), V.int IntKind.i64 (Src.s (Prod.snd y3))], 59)]
                        [0])]
                  (T.need [n ≠ (0 : Int)]
                    (T.done
                      (Ret.mk
                        (V.int IntKind.i64
                          (Int.tmod (IntKind.wrap IntKind.i64 (IntKind.wrap IntKind.i64 (IntKind.wrap IntKind.i64 (Prod.fst y1 * (65536 : Int)) + IntKind.wrap IntKind.i64 (Prod.fst y2 * (256 : Int))) + Prod.fst y3)) n))
                        [some ([V.dsl (List.length (Src.l (Prod.snd y3))) false (encs encByte (Src.l (Prod.snd y3))), V.int IntKind.i64 (↑(Src.k (Prod.snd y3)) : Int), V.int IntKind.i64 (Src.s (Prod.snd y3))], 59)]
                        [0]))))) := by kernel_rfl

theorem next_ok (x : Src) (n : Int) {c : Nat} (h : x.OK (c + 3)) : FnOK Try.prog fNext [.ptr 0 0, .int .i64 n] [srcB x] ⟨.int .i64 (nextF x n).1, [srcB (nextF x n).2], [0]⟩ := by
  refine fnOK_TL (E := E1) follows named (nextT x n) (by simp) ?_
  have h1 := byteF_ok (c := c + 2) h
  have h2 := byteF_ok (c := c + 1) h1.1
  have h3 := byteF_ok (c := c) h2.1
  simp only [WP_cond, T.WP, All, decide_eq_true_eq, decide_eq_false_iff_not, and_true, srcOf_mk, nextF]
  refine ⟨fun hc => by rw [if_pos hc]; exact ⟨rfl, rfl, by simp⟩, fun hc => ⟨fun hd y1 e1 => ?_, fun hd y1 e1 => ?_⟩⟩
  · subst e1
    refine ⟨byte_ok x h, by omega, ?_⟩
    rw [if_neg hc, if_pos hd]; exact ⟨rfl, rfl, by simp⟩
  · subst e1
    refine ⟨byte_ok x h, fun y2 e2 => ?_⟩
    subst e2
    refine ⟨byte_ok _ h1.1, fun y3 e3 => ?_⟩
    subst e3
    refine ⟨byte_ok _ h2.1, by omega, ?_⟩
    rw [if_neg hc, if_neg hd]
    simp (disch := omega) only [wrap_id]
    exact ⟨rfl, rfl, by simp⟩

abbrev fChance : Nat := 40
abbrev fPick : Nat := 41
noncomputable def resNext : ResT := fun f vs hp => match vs, hp with
  | [.ptr 0 0, .int _ n], [some ([.dsl _ _ cs, .int _ k, .int _ s], _)] => bif Nat.beq f fNext then some ⟨nextF (srcOf cs k s) n, fun y => ⟨.int .i64 y.1, [srcB y.2], [0]⟩⟩ else none
  | _, _ => none
noncomputable def E2 : Env := { P := Try.prog, vw := vwA, res := resNext }

def chanceF (x : Src) (n : Int) : Bool × Src := ((nextF x n).1 == n - 1, (nextF x n).2)

set_option maxRecDepth 100000 in
theorem chanceT (x : Src) (n : Int) : fnT E2 0 fChance [.ptr 0 0, .int .i64 n] [srcB x] =
  T.bind (nextF (srcOf (encs encByte (Src.l x)) (↑(Src.k x) : Int) (Src.s x)) n) fun y0 =>
    T.need
      [FnOK (Env.P E2) 37 [V.ptr 0 0, V.int IntKind.i64 n]
          [some ([V.dsl (List.length (Src.l x)) false (encs encByte (Src.l x)), V.int IntKind.i64 (↑(Src.k x) : Int), V.int IntKind.i64 (Src.s x)], 59)]
          (Ret.mk (V.int IntKind.i64 (Prod.fst y0))
            [some ([V.dsl (List.length (Src.l (Prod.snd y0))) false (encs encByte (Src.l (Prod.snd y0))), V.int IntKind.i64 (↑(Src.k (Prod.snd y0)) : Int), V.int IntKind.i64 (Src.s (Prod.snd y0))], 59)]
            [0])]
      (T.done
        (Ret.mk (V.bool (Prod.fst y0 == IntKind.wrap IntKind.i64 (n - (1 : Int))))
          [some ([V.dsl (List.length (Src.l (Prod.snd y0))) false (encs encByte (Src.l (Prod.snd y0))), V.int IntKind.i64 (↑(Src.k (Prod.snd y0)) : Int), V.int IntKind.i64 (Src.s (Prod.snd y0))], 59)] [0])) := (T.force_eq _).symm.trans (by kernel_rfl)

theorem chance_ok (x : Src) (n : Int) {c : Nat} (h : x.OK (c + 3)) (hn : 1 ≤ n ∧ n ≤ 1000000) : FnOK Try.prog fChance [.ptr 0 0, .int .i64 n] [srcB x] ⟨.bool (chanceF x n).1, [srcB (chanceF x n).2], [0]⟩ := by
  refine fnOK_T (E := E2) follows named (chanceT x n) ?_
  simp only [WP_cond, T.WP, All, decide_eq_true_eq, decide_eq_false_iff_not, and_true, srcOf_mk, chanceF]
  intro y e
  subst e
  refine ⟨next_ok x n h, ?_⟩
  rw [wrap_id (by omega)]
  rfl

def strB (L : List (List UInt8)) : Option Blk := some ([.sld (encs encStr L)], 9)
def pickF (x : Src) (L : List (List UInt8)) : List UInt8 × Src :=
  if L.length = 0 then ([], x) else (L.getD (nextF x L.length).1.toNat [], (nextF x L.length).2)

set_option maxRecDepth 100000 in
theorem pickT (x : Src) (L : List (List UInt8)) (full : Bool) : fnT E2 0 fPick [.ptr 0 0, .sl 1 0 L.length full] [srcB x, strB L] =
  bif (↑(List.length L) : Int) == (0 : Int) then
    T.done
      (Ret.mk (V.str []) [some ([V.dsl (List.length (Src.l x)) false (encs encByte (Src.l x)), V.int IntKind.i64 (↑(Src.k x) : Int), V.int IntKind.i64 (Src.s x)], 59), some ([V.sld (encs encStr L)], 9)] [])
  else
    T.bind (nextF (srcOf (encs encByte (Src.l x)) (↑(Src.k x) : Int) (Src.s x)) (↑(List.length L) : Int)) fun y0 =>
      T.need
        [FnOK (Env.P E2) 37 [V.ptr 0 0, V.int IntKind.i64 (↑(List.length L) : Int)]
            [some ([V.dsl (List.length (Src.l x)) false (encs encByte (Src.l x)), V.int IntKind.i64 (↑(Src.k x) : Int), V.int IntKind.i64 (Src.s x)], 59)]
            (Ret.mk (V.int IntKind.i64 (Prod.fst y0))
              [some ([V.dsl (List.length (Src.l (Prod.snd y0))) false (encs encByte (Src.l (Prod.snd y0))), V.int IntKind.i64 (↑(Src.k (Prod.snd y0)) : Int), V.int IntKind.i64 (Src.s (Prod.snd y0))], 59)]
              [0])]
        (T.need [(0 : Int) ≤ Prod.fst y0 ∧ Prod.fst y0 < (↑(List.length L) : Int)]
          (T.need
            [List.take 1 (List.drop (0 + Int.toNat (Prod.fst y0) * 1) (encs encStr L)) =
                [V.str (List.getD (decL encStr (encs encStr L)) ((0 + Int.toNat (Prod.fst y0) * 1) / 1) [])]]
            (T.done
              (Ret.mk (V.str (List.getD (decL encStr (encs encStr L)) ((0 + Int.toNat (Prod.fst y0) * 1) / 1) []))
                [some ([V.dsl (List.length (Src.l (Prod.snd y0))) false (encs encByte (Src.l (Prod.snd y0))), V.int IntKind.i64 (↑(Src.k (Prod.snd y0)) : Int), V.int IntKind.i64 (Src.s (Prod.snd y0))], 59),
                  some ([V.sld (encs encStr L)], 9)]
                [0])))) := by kernel_rfl

theorem pick_ok (x : Src) (L : List (List UInt8)) (full : Bool) {c : Nat} (h : x.OK (c + 3)) : FnOK Try.prog fPick [.ptr 0 0, .sl 1 0 L.length full] [srcB x, strB L] ⟨.str (pickF x L).1, [srcB (pickF x L).2, strB L], [0]⟩ := by
  refine fnOK_TL (E := E2) follows named (pickT x L full) (by simp) ?_
  simp only [WP_cond, T.WP, All, decide_eq_true_eq, decide_eq_false_iff_not, and_true, srcOf_mk, pickF, flat_sealed, layStr.decL, Nat.zero_add, Nat.mul_one, Nat.div_one, beq_iff_eq, beq_eq_false_iff_ne]
  refine ⟨fun hc => by rw [if_pos (by omega)]; exact ⟨rfl, rfl, by simp⟩, fun hc y e => ?_⟩
  subst e
  have hn := nextF_ok (n := L.length) h (by omega)
  refine ⟨next_ok x _ h, hn.2, ?_, ?_⟩
  · have := layStr.at' L [] _ 1 hn.2 rfl
    rwa [Nat.mul_one] at this
  · rw [if_neg (by omega)]; exact ⟨rfl, rfl, by simp⟩

theorem pickF_ok {x : Src} {c : Nat} {L : List (List UInt8)} (h : x.OK (c + 3)) (hL : L ≠ []) : (pickF x L).2.OK c ∧ (pickF x L).1 ∈ L := by
  unfold pickF
  have hl : L.length ≠ 0 := by simpa using hL
  rw [if_neg hl]
  have hn := nextF_ok (n := L.length) h (by omega)
  refine ⟨hn.1, ?_⟩
  rw [List.getD_eq_getElem?_getD, List.getElem?_eq_getElem (by omega)]
  exact List.getElem_mem _

abbrev fJsText : Nat := 45
/-- The texts of explicit cells. -/
def strsOf : List V → List (List UInt8)
  | .str s :: t => s :: strsOf t
  | _ => []
noncomputable def resPick : ResT := fun f vs hp => match vs, hp with
  | [.ptr 0 0, .sl 1 0 _ _], [some ([.dsl _ _ cs, .int _ k, .int _ s], _), some (c, t)] => bif Nat.beq f fPick then some ⟨pickF (srcOf cs k s) (strsOf c), fun y => ⟨.str y.1, [srcB y.2, some (c, t)], [0]⟩⟩ else none
  | [.ptr 0 0, .int _ n], [some ([.dsl _ _ cs, .int _ k, .int _ s], _)] => bif Nat.beq f fChance then some ⟨chanceF (srcOf cs k s) n, fun y => ⟨.bool y.1, [srcB y.2], [0]⟩⟩ else none
  | _, _ => none
noncomputable def E3 : Env := { P := Try.prog, vw := vwA, res := resNext.or resPick }
theorem pick_ex (x : Src) (L : List (List UInt8)) (full : Bool) {n : Nat} {t : TypeId} {cells : List V} (hn : n = L.length) (ht : t = 9) (hc : cells = encs encStr L) {c : Nat} (h : x.OK (c + 3)) : FnOK Try.prog fPick [.ptr 0 0, .sl 1 0 n full] [srcB x, some (cells, t)] ⟨.str (pickF x L).1, [srcB (pickF x L).2, some (cells, t)], [0]⟩ := by
  subst hn ht hc
  have hf : flat (encs encStr L) = encs encStr L := by
    induction L with
    | nil => rfl
    | cons a L ih => rw [encs_cons]; exact congrArg (V.str a :: ·) ih
  have hr : V.refsL (encs encStr L) = [] := by
    clear hf
    induction L with
    | nil => rfl
    | cons a L ih => rw [encs_cons]; simpa [encStr, V.refsL, V.refs] using ih
  have := (pick_ok x L full h).unsl (b := 1) (c := encs encStr L) (T := 9) (by rw [hf]; rfl) hr (by simp)
  simpa using this

def jsTexts : List (List UInt8) := [[], [97], [98], [107], [116, 119, 111, 32, 119, 111, 114, 100, 115], [113, 34, 113], [98, 92, 98], [122, 122]]

set_option maxRecDepth 100000 in
theorem jsTextT (x : Src) : fnT E3 0 fJsText [.ptr 0 0] [srcB x] =
  T.bind
    (pickF (srcOf (encs encByte (Src.l x)) (↑(Src.k x) : Int) (Src.s x))
      (strsOf
        [V.str [], V.str [97], V.str [98], V.str [107],
          V.str [116, 119, 111, 32, 119, 111, 114, 100, 115], V.str [113, 34, 113],
          V.str [98, 92, 98], V.str [122, 122]]))
    fun y0 =>
    T.need
      [FnOK (Env.P E3) 41 [V.ptr 0 0, V.sl 1 0 8 true]
          [some ([V.dsl (List.length (Src.l x)) false (encs encByte (Src.l x)), V.int IntKind.i64 (↑(Src.k x) : Int), V.int IntKind.i64 (Src.s x)], 59),
            some
              ([V.str [], V.str [97], V.str [98], V.str [107],
                  V.str [116, 119, 111, 32, 119, 111, 114, 100, 115], V.str [113, 34, 113],
                  V.str [98, 92, 98], V.str [122, 122]],
                9)]
          (Ret.mk (V.str (Prod.fst y0))
            [some ([V.dsl (List.length (Src.l (Prod.snd y0))) false (encs encByte (Src.l (Prod.snd y0))), V.int IntKind.i64 (↑(Src.k (Prod.snd y0)) : Int), V.int IntKind.i64 (Src.s (Prod.snd y0))], 59),
              some
                ([V.str [], V.str [97], V.str [98], V.str [107],
                    V.str [116, 119, 111, 32, 119, 111, 114, 100, 115], V.str [113, 34, 113],
                    V.str [98, 92, 98], V.str [122, 122]],
                  9)]
            [0])]
      (T.done
        (Ret.mk (V.str (Prod.fst y0))
          [some ([V.dsl (List.length (Src.l (Prod.snd y0))) false (encs encByte (Src.l (Prod.snd y0))), V.int IntKind.i64 (↑(Src.k (Prod.snd y0)) : Int), V.int IntKind.i64 (Src.s (Prod.snd y0))], 59)] [0])) := (T.force_eq _).symm.trans (by kernel_rfl)

theorem jsText_ok (x : Src) {c : Nat} (h : x.OK (c + 3)) : FnOK Try.prog fJsText [.ptr 0 0] [srcB x] ⟨.str (pickF x jsTexts).1, [srcB (pickF x jsTexts).2], [0]⟩ := by
  refine fnOK_TL (E := E3) follows named (jsTextT x) (by simp) ?_
  simp only [WP_cond, T.WP, All, decide_eq_true_eq, decide_eq_false_iff_not, and_true, beq_iff_eq, beq_eq_false_iff_ne, ne_eq, srcOf_mk]
  intro y e
  subst e
  exact ⟨pick_ex x jsTexts true rfl rfl rfl h, ⟨rfl, rfl, by simp⟩⟩

end Go.Proofs.Ytopebociobgmhaa

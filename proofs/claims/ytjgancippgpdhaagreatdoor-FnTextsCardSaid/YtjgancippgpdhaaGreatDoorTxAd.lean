/-
  The source of choices, by trees.
  Values that are drawn.
  Values that are drawn: the whole.
  The text of a value: digits and quoted texts.
  The text of a value.
  Drawn values can be printed, and are short.
  A slice of one's own is given away to a function that only reads it.
  Streams in plain Lean: what a byte does, in the reference's way and in the program's; the two agree.
  The framer in plain Lean, as it lies in memory.
-/
import Derived.Test.YtjgancippgpdhaaGreatDoorTxAc
import GoSem.Core.Value
namespace Go.Proofs.YtjgancippgpdhaaGreatDoor
open Go.RowKit
set_option maxRecDepth 100000

def res0 : ResT := fun _ _ _ => none
/-- One table behind the other. -/
def ResT.or (a b : ResT) : ResT := fun f vs hp => match a f vs hp with
  | some r => some r
  | none => b f vs hp
noncomputable def E0 : Env := { P := Tryz.prog, vw := vwA, res := res0 }
abbrev fByte : Nat := 79
abbrev tSrc : Nat := 69

/-- A source of choices: its code, where it stands, its seed. -/
structure Src where
  l : List UInt8
  k : Nat
  s : Int
/-- It may be asked c times more. -/
structure Src.OK (x : Src) (c : Nat) : Prop where
  hl : x.l.length ≤ 1048576
  hk : x.k + c ≤ 1099511627776
  h0 : 0 ≤ x.s
  h1 : x.s < 2147483648
def srcB (x : Src) : Option Blk := some ([sls encByte x.l, .int .i64 x.k, .int .i64 x.s], tSrc)

def byteF (x : Src) : Int × Src :=
  if x.k + 1 ≤ x.l.length then ((x.l.getD x.k 0).toNat, ⟨x.l, x.k + 1, (x.s * 31 + (x.l.getD x.k 0).toNat + 7).tmod 2147483648⟩)
  else if 3000 < x.k + 1 then (0, ⟨x.l, x.k + 1, x.s⟩)
  else ((((x.s * 1103515245 + 12345).tmod 2147483648).tdiv 65536).tmod 256, ⟨x.l, x.k + 1, (x.s * 1103515245 + 12345).tmod 2147483648⟩)

theorem tmod_bd (a : Int) (h : 0 ≤ a) : 0 ≤ a.tmod 2147483648 ∧ a.tmod 2147483648 < 2147483648 := ⟨Int.tmod_nonneg _ h, Int.tmod_lt_of_pos _ (by omega)⟩

theorem byteF_ok {x : Src} {c : Nat} (h : x.OK (c + 1)) : (byteF x).2.OK c ∧ 0 ≤ (byteF x).1 ∧ (byteF x).1 < 256 := by
  obtain ⟨hl, hk, h0, h1⟩ := h
  unfold byteF
  split
  · have hb := (x.l.getD x.k 0).toNat_lt
    exact ⟨⟨hl, by simp only; omega, (tmod_bd _ (by omega)).1, (tmod_bd _ (by omega)).2⟩, by simp only; omega, by simp only; omega⟩
  · split
    · exact ⟨⟨hl, by simp only; omega, h0, h1⟩, by simp, by simp⟩
    · have hb := tmod_bd (x.s * 1103515245 + 12345) (by omega)
      have hq := Int.tdiv_nonneg hb.1 (show (0 : Int) ≤ 65536 by omega)
      exact ⟨⟨hl, by simp only; omega, hb.1, hb.2⟩, Int.tmod_nonneg _ hq, Int.tmod_lt_of_pos _ (by omega)⟩

set_option maxRecDepth 100000 in
theorem byteT (x : Src) : fnT E0 0 fByte [.ptr 0 0] [srcB x] =
  bif decide (IntKind.wrap IntKind.i64 ((↑(Src.k x) : Int) + (1 : Int)) ≤ (↑(List.length (Src.l x)) : Int)) then
    T.need
      [(0 : Int) ≤ IntKind.wrap IntKind.i64 (IntKind.wrap IntKind.i64 ((↑(Src.k x) : Int) + (1 : Int)) - (1 : Int)) ∧
          IntKind.wrap IntKind.i64 (IntKind.wrap IntKind.i64 ((↑(Src.k x) : Int) + (1 : Int)) - (1 : Int)) < (↑(List.length (Src.l x)) : Int),
        List.take 1 (List.drop (Int.toNat (IntKind.wrap IntKind.i64 (IntKind.wrap IntKind.i64 ((↑(Src.k x) : Int) + (1 : Int)) - (1 : Int))) * 1) (encs encByte (Src.l x))) =
          [V.int IntKind.u8
              (↑(UInt8.toNat (List.getD (decL encByte (encs encByte (Src.l x))) (Int.toNat (IntKind.wrap IntKind.i64 (IntKind.wrap IntKind.i64 ((↑(Src.k x) : Int) + (1 : Int)) - (1 : Int)))) (0 : UInt8))) : Int)]]
      (T.need [(2147483648 : Int) ≠ (0 : Int)]
        (T.need
          [(0 : Int) ≤ IntKind.wrap IntKind.i64 (IntKind.wrap IntKind.i64 ((↑(Src.k x) : Int) + (1 : Int)) - (1 : Int)) ∧
              IntKind.wrap IntKind.i64 (IntKind.wrap IntKind.i64 ((↑(Src.k x) : Int) + (1 : Int)) - (1 : Int)) < (↑(List.length (Src.l x)) : Int),
            List.take 1 (List.drop (Int.toNat (IntKind.wrap IntKind.i64 (IntKind.wrap IntKind.i64 ((↑(Src.k x) : Int) + (1 : Int)) - (1 : Int))) * 1) (encs encByte (Src.l x))) =
              [V.int IntKind.u8
                  (↑(UInt8.toNat (List.getD (decL encByte (encs encByte (Src.l x))) (Int.toNat (IntKind.wrap IntKind.i64 (IntKind.wrap IntKind.i64 ((↑(Src.k x) : Int) + (1 : Int)) - (1 : Int)))) (0 : UInt8))) : Int)]]
          (T.done
            (Ret.mk
              (V.int IntKind.i64
                (IntKind.wrap IntKind.i64
                  (↑(UInt8.toNat (List.getD (decL encByte (encs encByte (Src.l x))) (Int.toNat (IntKind.wrap IntKind.i64 (IntKind.wrap IntKind.i64 ((↑(Src.k x) : Int) + (1 : Int)) - (1 : Int)))) (0 : UInt8))) : Int)))
              [some
                  ([V.dsl (List.length (Src.l x)) false (encs encByte (Src.l x)), V.int IntKind.i64 (IntKind.wrap IntKind.i64 ((↑(Src.k x) : Int) + (1 : Int))),
                      V.int IntKind.i64
                        (Int.tmod
                          (IntKind.wrap IntKind.i64
                            (IntKind.wrap IntKind.i64
                                (IntKind.wrap IntKind.i64 (Src.s x * (31 : Int)) +
                                  IntKind.wrap IntKind.i64
                                    (↑(UInt8.toNat
                                          (List.getD (decL encByte (encs encByte (Src.l x))) (Int.toNat (IntKind.wrap IntKind.i64 (IntKind.wrap IntKind.i64 ((↑(Src.k x) : Int) + (1 : Int)) - (1 : Int)))) (0 : UInt8))) :
                                      Int)) +
                              (7 : Int)))
                          (2147483648 : Int))],
                    69)]
              [0]))))
  else
    bif decide (IntKind.wrap IntKind.i64 ((↑(Src.k x) : Int) + (1 : Int)) > (3000 : Int)) then
      T.done
        (Ret.mk (V.int IntKind.i64 (0 : Int))
          [some ([V.dsl (List.length (Src.l x)) false (encs encByte (Src.l x)), V.int IntKind.i64 (IntKind.wrap IntKind.i64 ((↑(Src.k x) : Int) + (1 : Int))), V.int IntKind.i64 (Src.s x)], 69)] [0])
    else
      T.need [(2147483648 : Int) ≠ (0 : Int)]
        (T.need [(65536 : Int) ≠ (0 : Int)]
          (T.need [(256 : Int) ≠ (0 : Int)]
            (T.done
              (Ret.mk
                (V.int IntKind.i64
                  (Int.tmod (IntKind.wrap IntKind.i64 (Int.tdiv (Int.tmod (IntKind.wrap IntKind.i64 (IntKind.wrap IntKind.i64 (Src.s x * (1103515245 : Int)) + (12345 : Int))) (2147483648 : Int)) (65536 : Int)))
                    (256 : Int)))
                [some
                    ([V.dsl (List.length (Src.l x)) false (encs encByte (Src.l x)), V.int IntKind.i64 (IntKind.wrap IntKind.i64 ((↑(Src.k x) : Int) + (1 : Int))),
                        V.int IntKind.i64 (Int.tmod (IntKind.wrap IntKind.i64 (IntKind.wrap IntKind.i64 (Src.s x * (1103515245 : Int)) + (12345 : Int))) (2147483648 : Int))],
                      69)]
                [0])))) := by kernel_rfl

theorem byte_ok (x : Src) {c : Nat} (h : x.OK (c + 1)) : FnOK Tryz.prog fByte [.ptr 0 0] [srcB x] ⟨.int .i64 (byteF x).1, [srcB (byteF x).2], [0]⟩ := by
  refine fnOK_T (E := E0) follows named (byteT x) ?_
  obtain ⟨hl, hk, h0, h1⟩ := h
  have hb := (x.l.getD x.k 0).toNat_lt
  have hw : IntKind.i64.wrap ((x.k : Int) + 1) = ((x.k + 1 : Nat) : Int) := wrap_succ (by omega)
  have hw2 : IntKind.i64.wrap (((x.k + 1 : Nat) : Int) - 1) = (x.k : Int) := by rw [wrap_id (by omega)]; omega
  simp only [WP_cond, T.WP, All, decide_eq_true_eq, decide_eq_false_iff_not, and_true, layByte.decL, hw, hw2, Int.toNat_natCast, byteF, srcB]
  refine ⟨fun hc => ?_, fun hc => ⟨fun hd => ?_, fun hd => ?_⟩⟩
  · rw [if_pos (by omega)]
    refine ⟨⟨by omega, layByte.at x.l 0 x.k 1 (by omega) rfl⟩, by omega, ⟨by omega, layByte.at x.l 0 x.k 1 (by omega) rfl⟩, ?_⟩
    simp (disch := omega) only [wrap_id]
  · rw [if_neg (by omega), if_pos (by omega)]
  · rw [if_neg (by omega), if_neg (by omega)]
    have hb := tmod_bd (x.s * 1103515245 + 12345) (by omega)
    have hq := Int.tdiv_nonneg hb.1 (show (0 : Int) ≤ 65536 by omega)
    have hq2 := Int.tdiv_le_self 65536 hb.1
    refine ⟨by omega, by omega, by omega, ?_⟩
    simp (disch := omega) only [wrap_id]

/-- A source, as it lies in memory. -/
noncomputable def srcOf (cs : List V) (k s : Int) : Src := ⟨decL encByte cs, k.toNat, s⟩
theorem srcOf_mk (x : Src) : srcOf (encs encByte x.l) (x.k : Int) x.s = x := by
  unfold srcOf; rw [layByte.decL, Int.toNat_natCast]
abbrev fNext : Nat := 52
/-- What the functions of a source give. -/
noncomputable def resByte : ResT := fun f vs hp => match vs, hp with
  | [.ptr 0 0], [some ([.dsl _ _ cs, .int _ k, .int _ s], _)] => bif Nat.beq f fByte then some ⟨byteF (srcOf cs k s), fun y => ⟨.int .i64 y.1, [srcB y.2], [0]⟩⟩ else none
  | _, _ => none
noncomputable def E1 : Env := { P := Tryz.prog, vw := vwA, res := resByte }

def nextF (x : Src) (n : Int) : Int × Src :=
  if n ≤ 1 then (0, x)
  else if n ≤ 256 then ((byteF x).1.tmod n, (byteF x).2)
  else (((byteF x).1 * 65536 + (byteF (byteF x).2).1 * 256 + (byteF (byteF (byteF x).2).2).1).tmod n, (byteF (byteF (byteF x).2).2).2)
theorem Src.OK.less {x : Src} {c d : Nat} (h : x.OK c) (hd : d ≤ c) : x.OK d := ⟨h.hl, by have := h.hk; omega, h.h0, h.h1⟩
theorem nextF_ok {x : Src} {c : Nat} {n : Int} (h : x.OK (c + 3)) (hn : 1 ≤ n) : (nextF x n).2.OK c ∧ 0 ≤ (nextF x n).1 ∧ (nextF x n).1 < n := by
  have h1 := byteF_ok (c := c + 2) h
  have h2 := byteF_ok (c := c + 1) h1.1
  have h3 := byteF_ok (c := c) h2.1
  unfold nextF
  split
  · exact ⟨h.less (by omega), by simp, by simp only; omega⟩
  · split
    · exact ⟨h1.1.less (by omega), Int.tmod_nonneg _ h1.2.1, Int.tmod_lt_of_pos _ (by omega)⟩
    · exact ⟨h3.1, Int.tmod_nonneg _ (by omega), Int.tmod_lt_of_pos _ (by omega)⟩

set_option maxRecDepth 100000 in
theorem nextT (x : Src) (n : Int) : fnT E1 0 fNext [.ptr 0 0, .int .i64 n] [srcB x] =
  bif decide (n ≤ (1 : Int)) then
    T.done (Ret.mk (V.int IntKind.i64 (0 : Int)) [some ([V.dsl (List.length (Src.l x)) false (encs encByte (Src.l x)), V.int IntKind.i64 (↑(Src.k x) : Int), V.int IntKind.i64 (Src.s x)], 69)] [])
  else
    bif decide (n ≤ (256 : Int)) then
      T.bind (byteF (srcOf (encs encByte (Src.l x)) (↑(Src.k x) : Int) (Src.s x))) fun y0 =>
        T.need
          [FnOK (Env.P E1) 79 [V.ptr 0 0] [some ([V.dsl (List.length (Src.l x)) false (encs encByte (Src.l x)), V.int IntKind.i64 (↑(Src.k x) : Int), V.int IntKind.i64 (Src.s x)], 69)]
              (Ret.mk (V.int IntKind.i64 (Prod.fst y0))
                [some ([V.dsl (List.length (Src.l (Prod.snd y0))) false (encs encByte (Src.l (Prod.snd y0))), V.int IntKind.i64 (↑(Src.k (Prod.snd y0)) : Int), V.int IntKind.i64 (Src.s (Prod.snd y0))], 69)]
                [0])]
          (T.need [n ≠ (0 : Int)]
            (T.done
              (Ret.mk (V.int IntKind.i64 (Int.tmod (Prod.fst y0) n))
                [some ([V.dsl (List.length (Src.l (Prod.snd y0))) false (encs encByte (Src.l (Prod.snd y0))), V.int IntKind.i64 (↑(Src.k (Prod.snd y0)) : Int), V.int IntKind.i64 (Src.s (Prod.snd y0))], 69)]
                [0])))
    else
      T.bind (byteF (srcOf (encs encByte (Src.l x)) (↑(Src.k x) : Int) (Src.s x))) fun y1 =>
        T.need
          [FnOK (Env.P E1) 79 [V.ptr 0 0] [some ([V.dsl (List.length (Src.l x)) false (encs encByte (Src.l x)), V.int IntKind.i64 (↑(Src.k x) : Int), V.int IntKind.i64 (Src.s x)], 69)]
              (Ret.mk (V.int IntKind.i64 (Prod.fst y1))
                [some ([V.dsl (List.length (Src.l (Prod.snd y1))) false (encs encByte (Src.l (Prod.snd y1))), V.int IntKind.i64 (↑(Src.k (Prod.snd y1)) : Int), V.int IntKind.i64 (Src.s (Prod.snd y1))], 69)]
                [0])]
          (T.bind (byteF (srcOf (encs encByte (Src.l (Prod.snd y1))) (↑(Src.k (Prod.snd y1)) : Int) (Src.s (Prod.snd y1)))) fun y2 =>
            T.need
              [FnOK (Env.P E1) 79 [V.ptr 0 0]
                  [some ([V.dsl (List.length (Src.l (Prod.snd y1))) false (encs encByte (Src.l (Prod.snd y1))), V.int IntKind.i64 (↑(Src.k (Prod.snd y1)) : Int), V.int IntKind.i64 (Src.s (Prod.snd y1))], 69)]
                  (Ret.mk (V.int IntKind.i64 (Prod.fst y2))
                    [some ([V.dsl (List.length (Src.l (Prod.snd y2))) false (encs encByte (Src.l (Prod.snd y2))), V.int IntKind.i64 (↑(Src.k (Prod.snd y2)) : Int), V.int IntKind.i64 (Src.s (Prod.snd y2))], 69)]
                    [0])]
              (T.bind (byteF (srcOf (encs encByte (Src.l (Prod.snd y2))) (↑(Src.k (Prod.snd y2)) : Int) (Src.s (Prod.snd y2)))) fun y3 =>
                T.need
                  [FnOK (Env.P E1) 79 [V.ptr 0 0]
                      [some ([V.dsl (List.length (Src.l (Prod.snd y2))) false (encs encByte (Src.l (Prod.snd y2))), V.int IntKind.i64 (↑(Src.k (Prod.snd y2)) : Int), V.int IntKind.i64 (Src.s (Prod.snd y2))], 69)]
                      (Ret.mk (V.int IntKind.i64 (Prod.fst y3))
                        [some ([V.dsl (List.length (Src.l (Prod.snd y3))) false (encs encByte (Src.l (Prod.snd y3))), V.int IntKind.i64 (↑(Src.k (Prod.snd y3)) : Int), V.int IntKind.i64 (Src.s (Prod.snd y3))], 69)]
                        [0])]
                  (T.need [n ≠ (0 : Int)]
                    (T.done
                      (Ret.mk
                        (V.int IntKind.i64
                          (Int.tmod (IntKind.wrap IntKind.i64 (IntKind.wrap IntKind.i64 (IntKind.wrap IntKind.i64 (Prod.fst y1 * (65536 : Int)) + IntKind.wrap IntKind.i64 (Prod.fst y2 * (256 : Int))) + Prod.fst y3)) n))
                        [some ([V.dsl (List.length (Src.l (Prod.snd y3))) false (encs encByte (Src.l (Prod.snd y3))), V.int IntKind.i64 (↑(Src.k (Prod.snd y3)) : Int), V.int IntKind.i64 (Src.s (Prod.snd y3))], 69)]
                        [0]))))) := by kernel_rfl

theorem next_ok (x : Src) (n : Int) {c : Nat} (h : x.OK (c + 3)) : FnOK Tryz.prog fNext [.ptr 0 0, .int .i64 n] [srcB x] ⟨.int .i64 (nextF x n).1, [srcB (nextF x n).2], [0]⟩ := by
  refine fnOK_TL (E := E1) follows named (nextT x n) (by simp) ?_
  have h1 := byteF_ok (c := c + 2) h
  have h2 := byteF_ok (c := c + 1) h1.1
  have h3 := byteF_ok (c := c) h2.1
  simp only [WP_cond, T.WP, All, decide_eq_true_eq, decide_eq_false_iff_not, and_true, srcOf_mk, nextF]
  refine ⟨fun hc => by rw [if_pos hc]; exact ⟨rfl, rfl, by simp⟩, fun hc => ⟨fun hd y1 e1 => ?_, fun hd y1 e1 => ?_⟩⟩
  · subst e1
    refine ⟨byte_ok x h, by omega, ?_⟩
    rw [if_neg hc, if_pos hd]; exact ⟨rfl, rfl, by simp⟩
  · subst e1
    refine ⟨byte_ok x h, fun y2 e2 => ?_⟩
    subst e2
    refine ⟨byte_ok _ h1.1, fun y3 e3 => ?_⟩
    subst e3
    refine ⟨byte_ok _ h2.1, by omega, ?_⟩
    rw [if_neg hc, if_neg hd]
    simp (disch := omega) only [wrap_id]
    exact ⟨rfl, rfl, by simp⟩

abbrev fChance : Nat := 54
abbrev fPick : Nat := 70
noncomputable def resNext : ResT := fun f vs hp => match vs, hp with
  | [.ptr 0 0, .int _ n], [some ([.dsl _ _ cs, .int _ k, .int _ s], _)] => bif Nat.beq f fNext then some ⟨nextF (srcOf cs k s) n, fun y => ⟨.int .i64 y.1, [srcB y.2], [0]⟩⟩ else none
  | _, _ => none
noncomputable def E2 : Env := { P := Tryz.prog, vw := vwA, res := resNext }

def chanceF (x : Src) (n : Int) : Bool × Src := ((nextF x n).1 == n - 1, (nextF x n).2)

set_option maxRecDepth 100000 in
theorem chanceT (x : Src) (n : Int) : fnT E2 0 fChance [.ptr 0 0, .int .i64 n] [srcB x] =
  T.bind (nextF (srcOf (encs encByte (Src.l x)) (↑(Src.k x) : Int) (Src.s x)) n) fun y0 =>
    T.need
      [FnOK (Env.P E2) 52 [V.ptr 0 0, V.int IntKind.i64 n]
          [some ([V.dsl (List.length (Src.l x)) false (encs encByte (Src.l x)), V.int IntKind.i64 (↑(Src.k x) : Int), V.int IntKind.i64 (Src.s x)], 69)]
          (Ret.mk (V.int IntKind.i64 (Prod.fst y0))
            [some ([V.dsl (List.length (Src.l (Prod.snd y0))) false (encs encByte (Src.l (Prod.snd y0))), V.int IntKind.i64 (↑(Src.k (Prod.snd y0)) : Int), V.int IntKind.i64 (Src.s (Prod.snd y0))], 69)]
            [0])]
      (T.done
        (Ret.mk (V.bool (Prod.fst y0 == IntKind.wrap IntKind.i64 (n - (1 : Int))))
          [some ([V.dsl (List.length (Src.l (Prod.snd y0))) false (encs encByte (Src.l (Prod.snd y0))), V.int IntKind.i64 (↑(Src.k (Prod.snd y0)) : Int), V.int IntKind.i64 (Src.s (Prod.snd y0))], 69)] [0])) := (T.force_eq _).symm.trans (by kernel_rfl)

theorem chance_ok (x : Src) (n : Int) {c : Nat} (h : x.OK (c + 3)) (hn : 1 ≤ n ∧ n ≤ 1000000) : FnOK Tryz.prog fChance [.ptr 0 0, .int .i64 n] [srcB x] ⟨.bool (chanceF x n).1, [srcB (chanceF x n).2], [0]⟩ := by
  refine fnOK_T (E := E2) follows named (chanceT x n) ?_
  simp only [T.WP, All, and_true, srcOf_mk, chanceF]
  intro y e
  subst e
  refine ⟨next_ok x n h, ?_⟩
  rw [wrap_id (by omega)]
  rfl

def strB (L : List (List UInt8)) : Option Blk := some ([.sld (encs encStr L)], 9)
def pickF (x : Src) (L : List (List UInt8)) : List UInt8 × Src :=
  if L.length = 0 then ([], x) else (L.getD (nextF x L.length).1.toNat [], (nextF x L.length).2)

set_option maxRecDepth 100000 in
theorem pickT (x : Src) (L : List (List UInt8)) (full : Bool) : fnT E2 0 fPick [.ptr 0 0, .sl 1 0 L.length full] [srcB x, strB L] =
  bif (↑(List.length L) : Int) == (0 : Int) then
    T.done
      (Ret.mk (V.str []) [some ([V.dsl (List.length (Src.l x)) false (encs encByte (Src.l x)), V.int IntKind.i64 (↑(Src.k x) : Int), V.int IntKind.i64 (Src.s x)], 69), some ([V.sld (encs encStr L)], 9)] [])
  else
    T.bind (nextF (srcOf (encs encByte (Src.l x)) (↑(Src.k x) : Int) (Src.s x)) (↑(List.length L) : Int)) fun y0 =>
      T.need
        [FnOK (Env.P E2) 52 [V.ptr 0 0, V.int IntKind.i64 (↑(List.length L) : Int)]
            [some ([V.dsl (List.length (Src.l x)) false (encs encByte (Src.l x)), V.int IntKind.i64 (↑(Src.k x) : Int), V.int IntKind.i64 (Src.s x)], 69)]
            (Ret.mk (V.int IntKind.i64 (Prod.fst y0))
              [some ([V.dsl (List.length (Src.l (Prod.snd y0))) false (encs encByte (Src.l (Prod.snd y0))), V.int IntKind.i64 (↑(Src.k (Prod.snd y0)) : Int), V.int IntKind.i64 (Src.s (Prod.snd y0))], 69)]
              [0])]
        (T.need [(0 : Int) ≤ Prod.fst y0 ∧ Prod.fst y0 < (↑(List.length L) : Int)]
          (T.need
            [List.take 1 (List.drop (0 + Int.toNat (Prod.fst y0) * 1) (encs encStr L)) =
                [V.str (List.getD (decL encStr (encs encStr L)) ((0 + Int.toNat (Prod.fst y0) * 1) / 1) [])]]
            (T.done
              (Ret.mk (V.str (List.getD (decL encStr (encs encStr L)) ((0 + Int.toNat (Prod.fst y0) * 1) / 1) []))
                [some ([V.dsl (List.length (Src.l (Prod.snd y0))) false (encs encByte (Src.l (Prod.snd y0))), V.int IntKind.i64 (↑(Src.k (Prod.snd y0)) : Int), V.int IntKind.i64 (Src.s (Prod.snd y0))], 69),
                  some ([V.sld (encs encStr L)], 9)]
                [0])))) := by kernel_rfl

theorem pick_ok (x : Src) (L : List (List UInt8)) (full : Bool) {c : Nat} (h : x.OK (c + 3)) : FnOK Tryz.prog fPick [.ptr 0 0, .sl 1 0 L.length full] [srcB x, strB L] ⟨.str (pickF x L).1, [srcB (pickF x L).2, strB L], [0]⟩ := by
  refine fnOK_TL (E := E2) follows named (pickT x L full) (by simp) ?_
  simp only [WP_cond, T.WP, All, and_true, srcOf_mk, pickF, layStr.decL, Nat.zero_add, Nat.mul_one, Nat.div_one, beq_iff_eq, beq_eq_false_iff_ne]
  refine ⟨fun hc => by rw [if_pos (by omega)]; exact ⟨rfl, rfl, by simp⟩, fun hc y e => ?_⟩
  subst e
  have hn := nextF_ok (n := L.length) h (by omega)
  refine ⟨next_ok x _ h, hn.2, ?_, ?_⟩
  · have := layStr.at' L [] _ 1 hn.2 rfl
    rwa [Nat.mul_one] at this
  · rw [if_neg (by omega)]; exact ⟨rfl, rfl, by simp⟩

theorem pickF_ok {x : Src} {c : Nat} {L : List (List UInt8)} (h : x.OK (c + 3)) (hL : L ≠ []) : (pickF x L).2.OK c ∧ (pickF x L).1 ∈ L := by
  unfold pickF
  have hl : L.length ≠ 0 := by simpa using hL
  rw [if_neg hl]
  have hn := nextF_ok (n := L.length) h (by omega)
  refine ⟨hn.1, ?_⟩
  rw [List.getD_eq_getElem?_getD, List.getElem?_eq_getElem (by omega)]
  exact List.getElem_mem _

abbrev fJsText : Nat := 53
/-- The texts of explicit cells. -/
def strsOf : List V → List (List UInt8)
  | .str s :: t => s :: strsOf t
  | _ => []
noncomputable def resPick : ResT := fun f vs hp => match vs, hp with
  | [.ptr 0 0, .sl 1 0 _ _], [some ([.dsl _ _ cs, .int _ k, .int _ s], _), some (c, t)] => bif Nat.beq f fPick then some ⟨pickF (srcOf cs k s) (strsOf c), fun y => ⟨.str y.1, [srcB y.2, some (c, t)], [0]⟩⟩ else none
  | [.ptr 0 0, .int _ n], [some ([.dsl _ _ cs, .int _ k, .int _ s], _)] => bif Nat.beq f fChance then some ⟨chanceF (srcOf cs k s) n, fun y => ⟨.bool y.1, [srcB y.2], [0]⟩⟩ else none
  | _, _ => none
noncomputable def E3 : Env := { P := Tryz.prog, vw := vwA, res := resNext.or resPick }
theorem pick_ex (x : Src) (L : List (List UInt8)) (full : Bool) {n : Nat} {t : TypeId} {cells : List V} (hn : n = L.length) (ht : t = 9) (hc : cells = encs encStr L) {c : Nat} (h : x.OK (c + 3)) : FnOK Tryz.prog fPick [.ptr 0 0, .sl 1 0 n full] [srcB x, some (cells, t)] ⟨.str (pickF x L).1, [srcB (pickF x L).2, some (cells, t)], [0]⟩ := by
  subst hn ht hc
  have hf : flat (encs encStr L) = encs encStr L := by
    induction L with
    | nil => rfl
    | cons a L ih => rw [encs_cons]; exact congrArg (V.str a :: ·) ih
  have hr : V.refsL (encs encStr L) = [] := by
    clear hf
    induction L with
    | nil => rfl
    | cons a L ih => rw [encs_cons]; simpa [encStr, V.refsL, V.refs] using ih
  have := (pick_ok x L full h).unsl (b := 1) (c := encs encStr L) (T := 9) (by rw [hf]; rfl) hr (by simp)
  simpa using this

def jsTexts : List (List UInt8) := [[], [97], [98], [107], [116, 119, 111, 32, 119, 111, 114, 100, 115], [113, 34, 113], [98, 92, 98], [122, 122]]

set_option maxRecDepth 100000 in
theorem jsTextT (x : Src) : fnT E3 0 fJsText [.ptr 0 0] [srcB x] =
  T.bind
    (pickF (srcOf (encs encByte (Src.l x)) (↑(Src.k x) : Int) (Src.s x))
      (strsOf
        [V.str [], V.str [97], V.str [98], V.str [107],
          V.str [116, 119, 111, 32, 119, 111, 114, 100, 115], V.str [113, 34, 113],
          V.str [98, 92, 98], V.str [122, 122]]))
    fun y0 =>
    T.need
      [FnOK (Env.P E3) 70 [V.ptr 0 0, V.sl 1 0 8 true]
          [some ([V.dsl (List.length (Src.l x)) false (encs encByte (Src.l x)), V.int IntKind.i64 (↑(Src.k x) : Int), V.int IntKind.i64 (Src.s x)], 69),
            some
              ([V.str [], V.str [97], V.str [98], V.str [107],
                  V.str [116, 119, 111, 32, 119, 111, 114, 100, 115], V.str [113, 34, 113],
                  V.str [98, 92, 98], V.str [122, 122]],
                9)]
          (Ret.mk (V.str (Prod.fst y0))
            [some ([V.dsl (List.length (Src.l (Prod.snd y0))) false (encs encByte (Src.l (Prod.snd y0))), V.int IntKind.i64 (↑(Src.k (Prod.snd y0)) : Int), V.int IntKind.i64 (Src.s (Prod.snd y0))], 69),
              some
                ([V.str [], V.str [97], V.str [98], V.str [107],
                    V.str [116, 119, 111, 32, 119, 111, 114, 100, 115], V.str [113, 34, 113],
                    V.str [98, 92, 98], V.str [122, 122]],
                  9)]
            [0])]
      (T.done
        (Ret.mk (V.str (Prod.fst y0))
          [some ([V.dsl (List.length (Src.l (Prod.snd y0))) false (encs encByte (Src.l (Prod.snd y0))), V.int IntKind.i64 (↑(Src.k (Prod.snd y0)) : Int), V.int IntKind.i64 (Src.s (Prod.snd y0))], 69)] [0])) := (T.force_eq _).symm.trans (by kernel_rfl)

theorem jsText_ok (x : Src) {c : Nat} (h : x.OK (c + 3)) : FnOK Tryz.prog fJsText [.ptr 0 0] [srcB x] ⟨.str (pickF x jsTexts).1, [srcB (pickF x jsTexts).2], [0]⟩ := by
  refine fnOK_TL (E := E3) follows named (jsTextT x) (by simp) ?_
  simp only [T.WP, All, and_true, srcOf_mk]
  intro y e
  subst e
  exact ⟨pick_ex x jsTexts true rfl rfl rfl h, ⟨rfl, rfl, by simp⟩⟩

end Go.Proofs.YtjgancippgpdhaaGreatDoor

namespace Go.Proofs.YtjgancippgpdhaaGreatDoor
open Go.RowKit
set_option maxRecDepth 100000

abbrev fJson : Nat := 28

/-- Values one behind the other. -/
def drawList (f : Src → J × Src) : Nat → Src → List J → List J × Src
  | 0, x, acc => (acc, x)
  | i + 1, x, acc => drawList f i (f x).2 (acc ++ [(f x).1])
def drawObj (f : Src → J × Src) : List (List UInt8) → Src → List (List UInt8) → List J → List (List UInt8) × List J × Src
  | [], x, ks, js => (ks, js, x)
  | k :: t, x, ks, js => if (chanceF x 2).1 then drawObj f t (f (chanceF x 2).2).2 (ks ++ [k]) (js ++ [(f (chanceF x 2).2).1]) else drawObj f t (chanceF x 2).2 ks js
def objKeys : List (List UInt8) := [[97], [98], [107], [122, 122]]
/-- A value of kind k. -/
def jsonK (f : Src → J × Src) (k : Int) (x : Src) : J × Src :=
  if k = 0 then (.zero, x)
  else if k = 1 then (.mk 1 (nextF x 2).1 [] [] [], (nextF x 2).2)
  else if k = 2 then (.mk 2 ([(nextF x 20).1 - 9, 1000000000].getD ((nextF (nextF x 20).2 6).1.tdiv 5).toNat 0) [] [] [], (nextF (nextF x 20).2 6).2)
  else if k = 3 then (.mk 3 0 (pickF x jsTexts).1 [] [], (pickF x jsTexts).2)
  else if k = 4 then (.mk 4 0 [] [] (drawList f (nextF x 4).1.toNat (nextF x 4).2 []).1, (drawList f (nextF x 4).1.toNat (nextF x 4).2 []).2)
  else (.mk 5 0 [] (drawObj f objKeys x [] []).1 (drawObj f objKeys x [] []).2.1, (drawObj f objKeys x [] []).2.2)
def jsonF : Nat → Src → J × Src
  | 0, x => jsonK (fun y => (.zero, y)) (nextF (nextF x 6).2 4).1 (nextF (nextF x 6).2 4).2
  | d + 1, x => jsonK (jsonF d) (nextF x 6).1 (nextF x 6).2

def zJ : Option Blk := some ([.int .i64 0, .int .i64 0, .str [], .dsl 0 true [], .dsl 0 true []], tJ)
/-- States of the list's loop. -/
def stL0 (x : Src) (d i : Int) : St := ⟨mkTm 87 [(0, .ptr 0 0), (1, .int .i64 d), (4, .ptr 1 0), (6, .ptr 2 0), (7, .int .i64 i)], [srcB x, zJ, some ([.int .i64 4, .int .i64 0, .str [], .dsl 0 true [], .dsl 0 true []], tJ)], [0]⟩
def stL1 (x : Src) (d i : Int) (L : List J) : St := ⟨mkTm 87 [(0, .ptr 0 0), (1, .int .i64 d), (4, .ptr 1 0), (6, .ptr 2 0), (7, .int .i64 i)], [srcB x, zJ, some ([.int .i64 4, .int .i64 0, .str [], .dsl 0 true [], .sl 3 0 L.length false], tJ), some ([.sld (encs encJ L)], tJ)], [0]⟩
noncomputable def resJson (f : Src → J × Src) : ResT := fun g vs hp => match vs, hp with
  | [.ptr 0 0, .int _ _], [some ([.dsl _ _ cs, .int _ k, .int _ s], _)] => bif Nat.beq g fJson then some ⟨f (srcOf cs k s), fun y => ⟨.agg (vwJ y.1), [srcB y.2], [0]⟩⟩ else none
  | _, _ => none
noncomputable def EJ (f : Src → J × Src) : Env := { P := Tryz.prog, vw := vwA, res := (resNext.or resPick).or (resJson f) }
def nfL : Ex → Kp := fun _ => { keep := [0, 1, 4, 6, 7] }

set_option maxRecDepth 100000 in
theorem list0T (f : Src → J × Src) (x : Src) (d i : Int) : bodyT (EJ f) 1 nfL (lp Tryz.prog fJson 1) (stL0 x d i) =
  bif decide (i > (0 : Int)) then
    T.bind (f (srcOf (encs encByte (Src.l x)) (↑(Src.k x) : Int) (Src.s x))) fun y0 =>
      T.need
        [FnOK (Env.P (EJ f)) 28 [V.ptr 0 0, V.int IntKind.i64 (IntKind.wrap IntKind.i64 (d - (1 : Int)))]
            [some ([V.dsl (List.length (Src.l x)) false (encs encByte (Src.l x)), V.int IntKind.i64 (↑(Src.k x) : Int), V.int IntKind.i64 (Src.s x)], 69)]
            (Ret.mk
              (V.agg
                [V.int IntKind.i64 (J.kind (Prod.fst y0)), V.int IntKind.i64 (J.n (Prod.fst y0)), V.str (J.t (Prod.fst y0)), V.dsl (List.length (J.keys (Prod.fst y0))) false (encs encStr (J.keys (Prod.fst y0))),
                  V.dsl (List.length (J.items (Prod.fst y0))) false (encs encJ (J.items (Prod.fst y0)))])
              [some ([V.dsl (List.length (Src.l (Prod.snd y0))) false (encs encByte (Src.l (Prod.snd y0))), V.int IntKind.i64 (↑(Src.k (Prod.snd y0)) : Int), V.int IntKind.i64 (Src.s (Prod.snd y0))], 69)]
              [0])]
        (T.need [true = true, 0 = 0, 1 ≤ 9223372036854775807, 80 ≤ 140737488355328]
          (T.done
            (Ex.normal,
              St.mk
                (mkTm 87
                  [(0, V.ptr 0 0), (1, V.int IntKind.i64 d), (4, V.ptr 1 0), (6, V.ptr 2 0),
                    (7, V.int IntKind.i64 (IntKind.wrap IntKind.i64 (i - (1 : Int))))])
                [some ([V.dsl (List.length (Src.l (Prod.snd y0))) false (encs encByte (Src.l (Prod.snd y0))), V.int IntKind.i64 (↑(Src.k (Prod.snd y0)) : Int), V.int IntKind.i64 (Src.s (Prod.snd y0))], 69),
                  some ([V.int IntKind.i64 (0 : Int), V.int IntKind.i64 (0 : Int), V.str [], V.dsl 0 true [], V.dsl 0 true []], 28),
                  some ([V.int IntKind.i64 (4 : Int), V.int IntKind.i64 (0 : Int), V.str [], V.dsl 0 true [], V.sl 3 0 1 false], 28),
                  some
                    ([V.sld
                          [V.int IntKind.i64 (J.kind (Prod.fst y0)), V.int IntKind.i64 (J.n (Prod.fst y0)), V.str (J.t (Prod.fst y0)), V.dsl (List.length (J.keys (Prod.fst y0))) false (encs encStr (J.keys (Prod.fst y0))),
                            V.dsl (List.length (J.items (Prod.fst y0))) false (encs encJ (J.items (Prod.fst y0)))]],
                      28)]
                [0])))
  else
    T.done
      (Ex.exit 1,
        St.mk (mkTm 87 [(0, V.ptr 0 0), (1, V.int IntKind.i64 d), (4, V.ptr 1 0), (6, V.ptr 2 0), (7, V.int IntKind.i64 i)])
          [some ([V.dsl (List.length (Src.l x)) false (encs encByte (Src.l x)), V.int IntKind.i64 (↑(Src.k x) : Int), V.int IntKind.i64 (Src.s x)], 69),
            some ([V.int IntKind.i64 (0 : Int), V.int IntKind.i64 (0 : Int), V.str [], V.dsl 0 true [], V.dsl 0 true []], 28),
            some ([V.int IntKind.i64 (4 : Int), V.int IntKind.i64 (0 : Int), V.str [], V.dsl 0 true [], V.dsl 0 true []], 28)]
          [0]) := by kernel_rfl
set_option maxRecDepth 100000 in
theorem list1T (f : Src → J × Src) (x : Src) (d i : Int) (L : List J) : bodyT (EJ f) 1 nfL (lp Tryz.prog fJson 1) (stL1 x d i L) =
  bif decide (i > (0 : Int)) then
    T.bind (f (srcOf (encs encByte (Src.l x)) (↑(Src.k x) : Int) (Src.s x))) fun y0 =>
      T.need
        [FnOK (Env.P (EJ f)) 28 [V.ptr 0 0, V.int IntKind.i64 (IntKind.wrap IntKind.i64 (d - (1 : Int)))]
            [some ([V.dsl (List.length (Src.l x)) false (encs encByte (Src.l x)), V.int IntKind.i64 (↑(Src.k x) : Int), V.int IntKind.i64 (Src.s x)], 69)]
            (Ret.mk
              (V.agg
                [V.int IntKind.i64 (J.kind (Prod.fst y0)), V.int IntKind.i64 (J.n (Prod.fst y0)), V.str (J.t (Prod.fst y0)), V.dsl (List.length (J.keys (Prod.fst y0))) false (encs encStr (J.keys (Prod.fst y0))),
                  V.dsl (List.length (J.items (Prod.fst y0))) false (encs encJ (J.items (Prod.fst y0)))])
              [some ([V.dsl (List.length (Src.l (Prod.snd y0))) false (encs encByte (Src.l (Prod.snd y0))), V.int IntKind.i64 (↑(Src.k (Prod.snd y0)) : Int), V.int IntKind.i64 (Src.s (Prod.snd y0))], 69)]
              [0])]
        (T.need [0 = 0, List.length (encs encJ L) = List.length L * 5, List.length L + 1 ≤ 9223372036854775807, (List.length L + 1) * 80 ≤ 140737488355328]
          (T.done
            (Ex.normal,
              St.mk
                (mkTm 87
                  [(0, V.ptr 0 0), (1, V.int IntKind.i64 d), (4, V.ptr 1 0), (6, V.ptr 2 0),
                    (7, V.int IntKind.i64 (IntKind.wrap IntKind.i64 (i - (1 : Int))))])
                [some ([V.dsl (List.length (Src.l (Prod.snd y0))) false (encs encByte (Src.l (Prod.snd y0))), V.int IntKind.i64 (↑(Src.k (Prod.snd y0)) : Int), V.int IntKind.i64 (Src.s (Prod.snd y0))], 69),
                  some ([V.int IntKind.i64 (0 : Int), V.int IntKind.i64 (0 : Int), V.str [], V.dsl 0 true [], V.dsl 0 true []], 28),
                  some ([V.int IntKind.i64 (4 : Int), V.int IntKind.i64 (0 : Int), V.str [], V.dsl 0 true [], V.sl 3 0 (List.length L + 1) false], 28),
                  some
                    ([V.sld
                          (encs encJ L ++
                            [V.int IntKind.i64 (J.kind (Prod.fst y0)), V.int IntKind.i64 (J.n (Prod.fst y0)), V.str (J.t (Prod.fst y0)),
                              V.dsl (List.length (J.keys (Prod.fst y0))) false (encs encStr (J.keys (Prod.fst y0))), V.dsl (List.length (J.items (Prod.fst y0))) false (encs encJ (J.items (Prod.fst y0)))])],
                      28)]
                [0])))
  else
    T.done
      (Ex.exit 1,
        St.mk (mkTm 87 [(0, V.ptr 0 0), (1, V.int IntKind.i64 d), (4, V.ptr 1 0), (6, V.ptr 2 0), (7, V.int IntKind.i64 i)])
          [some ([V.dsl (List.length (Src.l x)) false (encs encByte (Src.l x)), V.int IntKind.i64 (↑(Src.k x) : Int), V.int IntKind.i64 (Src.s x)], 69),
            some ([V.int IntKind.i64 (0 : Int), V.int IntKind.i64 (0 : Int), V.str [], V.dsl 0 true [], V.dsl 0 true []], 28),
            some ([V.int IntKind.i64 (4 : Int), V.int IntKind.i64 (0 : Int), V.str [], V.dsl 0 true [], V.sl 3 0 (List.length L) false], 28), some ([V.sld (encs encJ L)], 28)]
          [0]) := by kernel_rfl

/-- What is known of a draw: it costs q. -/
structure Draw (f : Src → J × Src) (d : Int) (q : Nat) : Prop where
  call : ∀ x c, x.OK (c + q) → FnOK Tryz.prog fJson [.ptr 0 0, .int .i64 d] [srcB x] ⟨.agg (vwJ (f x).1), [srcB (f x).2], [0]⟩
  cost : ∀ x c, x.OK (c + q) → (f x).2.OK c

theorem flatC_snoc (L : List J) (j : J) : flatC (.sld (encs encJ L) :: vwJ j) = encs encJ (L ++ [j]) := by
  rw [encs_snoc, encJ_vw]
  simp only [flatC, vwJ, V.can, sls]

theorem stL1_snoc (x : Src) (d i : Int) (L : List J) (j : J) : stL1 x d i (L ++ [j]) = ⟨mkTm 87 [(0, .ptr 0 0), (1, .int .i64 d), (4, .ptr 1 0), (6, .ptr 2 0), (7, .int .i64 i)], [srcB x, zJ, some ([.int .i64 4, .int .i64 0, .str [], .dsl 0 true [], .sl 3 0 (L.length + 1) false], tJ), some ([.sld (flatC (.sld (encs encJ L) :: vwJ j))], tJ)], [0]⟩ := by
  rw [flatC_snoc]; simp [stL1]

theorem list1_loop {f : Src → J × Src} {d : Nat} {q : Nat} (hf : Draw f d q) (hd : d ≤ 1000) : ∀ (i : Nat) (x : Src) (L : List J) (c : Nat), x.OK (c + i * q) → L.length + i ≤ 1000 →
    LoopTo Tryz.prog 1 (lp Tryz.prog fJson 1) (stL1 x ((d + 1 : Nat) : Int) i L) (.exit 1) (stL1 (drawList f i x L).2 ((d + 1 : Nat) : Int) 0 (drawList f i x L).1)
  | 0, x, L, c, h, hL => by
    refine loopT (E := EJ f) follows named (list1T f x _ _ L) ?_
    simp only [WP_cond, T.WP, All, decide_eq_true_eq, decide_eq_false_iff_not, and_true, srcOf_mk]
    exact ⟨fun h => by omega, fun _ => ⟨rfl, rfl⟩⟩
  | i + 1, x, L, c, h, hL => by
    refine loopT (E := EJ f) follows named (list1T f x _ _ L) ?_
    simp only [WP_cond, T.WP, All, decide_eq_true_eq, decide_eq_false_iff_not, and_true, srcOf_mk]
    refine ⟨fun _ y e => ?_, fun h => by omega⟩
    subst e
    have hc : x.OK ((c + i * q) + q) := by rw [Nat.add_mul, Nat.one_mul, ← Nat.add_assoc] at h; exact h
    rw [wrap_id (by omega), show ((d + 1 : Nat) : Int) - 1 = d by omega]
    refine ⟨hf.call x _ hc, ⟨trivial, layJ.length _, by omega, by omega⟩, ?_⟩
    rw [wrap_id (by omega), show ((i + 1 : Nat) : Int) - 1 = i by omega]
    have ih := list1_loop hf hd i (f x).2 (L ++ [(f x).1]) c (hf.cost x _ hc) (by simp; omega)
    rw [stL1_snoc] at ih
    exact ih

theorem list0_loop {f : Src → J × Src} {d : Nat} {q : Nat} (hf : Draw f d q) (hd : d ≤ 1000) (i : Nat) (x : Src) (c : Nat) (h : x.OK (c + (i + 1) * q)) (hi : i ≤ 900) :
    LoopTo Tryz.prog 1 (lp Tryz.prog fJson 1) (stL0 x ((d + 1 : Nat) : Int) ((i + 1 : Nat) : Int)) (.exit 1) (stL1 (drawList f (i + 1) x []).2 ((d + 1 : Nat) : Int) 0 (drawList f (i + 1) x []).1) := by
  refine loopT (E := EJ f) follows named (list0T f x _ _) ?_
  simp only [WP_cond, T.WP, All, decide_eq_true_eq, decide_eq_false_iff_not, and_true, srcOf_mk]
  refine ⟨fun _ y e => ?_, fun h => by omega⟩
  subst e
  have hc : x.OK ((c + i * q) + q) := by rw [Nat.add_mul, Nat.one_mul, ← Nat.add_assoc] at h; exact h
  rw [wrap_id (by omega), show ((d + 1 : Nat) : Int) - 1 = d by omega]
  refine ⟨hf.call x _ hc, by simp, ?_⟩
  rw [wrap_id (by omega), show ((i + 1 : Nat) : Int) - 1 = i by omega]
  have ih := list1_loop hf hd i (f x).2 ([] ++ [(f x).1]) c (hf.cost x _ hc) (by simp; omega)
  rw [stL1_snoc] at ih
  exact ih
theorem list0_end {f : Src → J × Src} (x : Src) (d : Int) : LoopTo Tryz.prog 1 (lp Tryz.prog fJson 1) (stL0 x d 0) (.exit 1) (stL0 x d 0) := by
  refine loopT (E := EJ f) follows named (list0T f x _ _) ?_
  simp only [WP_cond, T.WP, All, decide_eq_true_eq, decide_eq_false_iff_not, and_true, srcOf_mk]
  exact ⟨fun h => by omega, fun _ => ⟨rfl, rfl⟩⟩

/-- States of the object's loop. -/
def stO0 (x : Src) (d i : Int) : St := ⟨mkTm 87 [(0, .ptr 0 0), (1, .int .i64 d), (4, .ptr 1 0), (8, .ptr 2 0), (9, .int .i64 i)], [srcB x, zJ, some ([.int .i64 5, .int .i64 0, .str [], .dsl 0 true [], .dsl 0 true []], tJ)], [0]⟩
def stO1 (x : Src) (d i : Int) (ks : List (List UInt8)) (L : List J) : St := ⟨mkTm 87 [(0, .ptr 0 0), (1, .int .i64 d), (4, .ptr 1 0), (8, .ptr 2 0), (9, .int .i64 i)], [srcB x, zJ, some ([.int .i64 5, .int .i64 0, .str [], .sl 3 0 ks.length false, .sl 4 0 L.length false], tJ), strB ks, some ([.sld (encs encJ L)], tJ)], [0]⟩
def nfO : Ex → Kp := fun _ => { keep := [0, 1, 4, 8, 9] }
noncomputable def EO (f : Src → J × Src) (k : List UInt8) : Env := { EJ f with vs := [(25, 5, .str k)] }

set_option maxRecDepth 100000 in
theorem obj0T (f : Src → J × Src) (k : List UInt8) (x : Src) (d i : Int) : bodyT (EO f k) 1 nfO (lp Tryz.prog fJson 3) (stO0 x d i) =
  bif decide (i < (4 : Int)) then
    T.bind (chanceF (srcOf (encs encByte (Src.l x)) (↑(Src.k x) : Int) (Src.s x)) (2 : Int)) fun y0 =>
      T.need
        [FnOK (Env.P (EO f k)) 54 [V.ptr 0 0, V.int IntKind.i64 (2 : Int)]
            [some ([V.dsl (List.length (Src.l x)) false (encs encByte (Src.l x)), V.int IntKind.i64 (↑(Src.k x) : Int), V.int IntKind.i64 (Src.s x)], 69)]
            (Ret.mk (V.bool (Prod.fst y0))
              [some ([V.dsl (List.length (Src.l (Prod.snd y0))) false (encs encByte (Src.l (Prod.snd y0))), V.int IntKind.i64 (↑(Src.k (Prod.snd y0)) : Int), V.int IntKind.i64 (Src.s (Prod.snd y0))], 69)]
              [0])]
        (bif Prod.fst y0 then
          T.need [(0 : Int) ≤ i ∧ i < (4 : Int)]
            (T.need [[V.str [97], V.str [98], V.str [107], V.str [122, 122]][0 + Int.toNat i * 1]? = some (V.str k)]
              (T.need [true = true, 0 = 0, 1 ≤ 9223372036854775807, 16 ≤ 140737488355328]
                (T.bind (f (srcOf (encs encByte (Src.l (Prod.snd y0))) (↑(Src.k (Prod.snd y0)) : Int) (Src.s (Prod.snd y0)))) fun y1 =>
                  T.need
                    [FnOK (Env.P (EO f k)) 28 [V.ptr 0 0, V.int IntKind.i64 (IntKind.wrap IntKind.i64 (d - (1 : Int)))]
                        [some ([V.dsl (List.length (Src.l (Prod.snd y0))) false (encs encByte (Src.l (Prod.snd y0))), V.int IntKind.i64 (↑(Src.k (Prod.snd y0)) : Int), V.int IntKind.i64 (Src.s (Prod.snd y0))], 69)]
                        (Ret.mk
                          (V.agg
                            [V.int IntKind.i64 (J.kind (Prod.fst y1)), V.int IntKind.i64 (J.n (Prod.fst y1)), V.str (J.t (Prod.fst y1)),
                              V.dsl (List.length (J.keys (Prod.fst y1))) false (encs encStr (J.keys (Prod.fst y1))), V.dsl (List.length (J.items (Prod.fst y1))) false (encs encJ (J.items (Prod.fst y1)))])
                          [some
                              ([V.dsl (List.length (Src.l (Prod.snd y1))) false (encs encByte (Src.l (Prod.snd y1))), V.int IntKind.i64 (↑(Src.k (Prod.snd y1)) : Int), V.int IntKind.i64 (Src.s (Prod.snd y1))], 69)]
                          [0])]
                    (T.need [true = true, 0 = 0, 1 ≤ 9223372036854775807, 80 ≤ 140737488355328]
                      (T.done
                        (Ex.normal,
                          St.mk
                            (mkTm 87
                              [(0, V.ptr 0 0), (1, V.int IntKind.i64 d), (4, V.ptr 1 0), (8, V.ptr 2 0),
                                (9, V.int IntKind.i64 (IntKind.wrap IntKind.i64 (i + (1 : Int))))])
                            [some
                                ([V.dsl (List.length (Src.l (Prod.snd y1))) false (encs encByte (Src.l (Prod.snd y1))), V.int IntKind.i64 (↑(Src.k (Prod.snd y1)) : Int), V.int IntKind.i64 (Src.s (Prod.snd y1))],
                                  69),
                              some ([V.int IntKind.i64 (0 : Int), V.int IntKind.i64 (0 : Int), V.str [], V.dsl 0 true [], V.dsl 0 true []], 28),
                              some ([V.int IntKind.i64 (5 : Int), V.int IntKind.i64 (0 : Int), V.str [], V.sl 3 0 1 false, V.sl 4 0 1 false], 28),
                              some ([V.sld [V.str k]], 9),
                              some
                                ([V.sld
                                      [V.int IntKind.i64 (J.kind (Prod.fst y1)), V.int IntKind.i64 (J.n (Prod.fst y1)), V.str (J.t (Prod.fst y1)),
                                        V.dsl (List.length (J.keys (Prod.fst y1))) false (encs encStr (J.keys (Prod.fst y1))), V.dsl (List.length (J.items (Prod.fst y1))) false (encs encJ (J.items (Prod.fst y1)))]],
                                  28)]
                            [0]))))))
        else
          T.done
            (Ex.normal,
              St.mk
                (mkTm 87
                  [(0, V.ptr 0 0), (1, V.int IntKind.i64 d), (4, V.ptr 1 0), (8, V.ptr 2 0),
                    (9, V.int IntKind.i64 (IntKind.wrap IntKind.i64 (i + (1 : Int))))])
                [some ([V.dsl (List.length (Src.l (Prod.snd y0))) false (encs encByte (Src.l (Prod.snd y0))), V.int IntKind.i64 (↑(Src.k (Prod.snd y0)) : Int), V.int IntKind.i64 (Src.s (Prod.snd y0))], 69),
                  some ([V.int IntKind.i64 (0 : Int), V.int IntKind.i64 (0 : Int), V.str [], V.dsl 0 true [], V.dsl 0 true []], 28),
                  some ([V.int IntKind.i64 (5 : Int), V.int IntKind.i64 (0 : Int), V.str [], V.dsl 0 true [], V.dsl 0 true []], 28)]
                [0]))
  else
    T.done
      (Ex.exit 3,
        St.mk (mkTm 87 [(0, V.ptr 0 0), (1, V.int IntKind.i64 d), (4, V.ptr 1 0), (8, V.ptr 2 0), (9, V.int IntKind.i64 i)])
          [some ([V.dsl (List.length (Src.l x)) false (encs encByte (Src.l x)), V.int IntKind.i64 (↑(Src.k x) : Int), V.int IntKind.i64 (Src.s x)], 69),
            some ([V.int IntKind.i64 (0 : Int), V.int IntKind.i64 (0 : Int), V.str [], V.dsl 0 true [], V.dsl 0 true []], 28),
            some ([V.int IntKind.i64 (5 : Int), V.int IntKind.i64 (0 : Int), V.str [], V.dsl 0 true [], V.dsl 0 true []], 28)]
          [0]) := by kernel_rfl
set_option maxRecDepth 100000 in
theorem obj1T (f : Src → J × Src) (k : List UInt8) (x : Src) (d i : Int) (ks : List (List UInt8)) (L : List J) : bodyT (EO f k) 1 nfO (lp Tryz.prog fJson 3) (stO1 x d i ks L) =
  bif decide (i < (4 : Int)) then
    T.bind (chanceF (srcOf (encs encByte (Src.l x)) (↑(Src.k x) : Int) (Src.s x)) (2 : Int)) fun y0 =>
      T.need
        [FnOK (Env.P (EO f k)) 54 [V.ptr 0 0, V.int IntKind.i64 (2 : Int)]
            [some ([V.dsl (List.length (Src.l x)) false (encs encByte (Src.l x)), V.int IntKind.i64 (↑(Src.k x) : Int), V.int IntKind.i64 (Src.s x)], 69)]
            (Ret.mk (V.bool (Prod.fst y0))
              [some ([V.dsl (List.length (Src.l (Prod.snd y0))) false (encs encByte (Src.l (Prod.snd y0))), V.int IntKind.i64 (↑(Src.k (Prod.snd y0)) : Int), V.int IntKind.i64 (Src.s (Prod.snd y0))], 69)]
              [0])]
        (bif Prod.fst y0 then
          T.need [(0 : Int) ≤ i ∧ i < (4 : Int)]
            (T.need [[V.str [97], V.str [98], V.str [107], V.str [122, 122]][0 + Int.toNat i * 1]? = some (V.str k)]
              (T.need
                [0 = 0, List.length (encs encStr ks) = List.length ks * 1, List.length ks + 1 ≤ 9223372036854775807,
                  (List.length ks + 1) * 16 ≤ 140737488355328]
                (T.bind (f (srcOf (encs encByte (Src.l (Prod.snd y0))) (↑(Src.k (Prod.snd y0)) : Int) (Src.s (Prod.snd y0)))) fun y1 =>
                  T.need
                    [FnOK (Env.P (EO f k)) 28 [V.ptr 0 0, V.int IntKind.i64 (IntKind.wrap IntKind.i64 (d - (1 : Int)))]
                        [some ([V.dsl (List.length (Src.l (Prod.snd y0))) false (encs encByte (Src.l (Prod.snd y0))), V.int IntKind.i64 (↑(Src.k (Prod.snd y0)) : Int), V.int IntKind.i64 (Src.s (Prod.snd y0))], 69)]
                        (Ret.mk
                          (V.agg
                            [V.int IntKind.i64 (J.kind (Prod.fst y1)), V.int IntKind.i64 (J.n (Prod.fst y1)), V.str (J.t (Prod.fst y1)),
                              V.dsl (List.length (J.keys (Prod.fst y1))) false (encs encStr (J.keys (Prod.fst y1))), V.dsl (List.length (J.items (Prod.fst y1))) false (encs encJ (J.items (Prod.fst y1)))])
                          [some
                              ([V.dsl (List.length (Src.l (Prod.snd y1))) false (encs encByte (Src.l (Prod.snd y1))), V.int IntKind.i64 (↑(Src.k (Prod.snd y1)) : Int), V.int IntKind.i64 (Src.s (Prod.snd y1))], 69)]
                          [0])]
                    (T.need
                      [0 = 0, List.length (encs encJ L) = List.length L * 5, List.length L + 1 ≤ 9223372036854775807,
                        (List.length L + 1) * 80 ≤ 140737488355328]
                      (T.done
                        (Ex.normal,
                          St.mk
                            (mkTm 87
                              [(0, V.ptr 0 0), (1, V.int IntKind.i64 d), (4, V.ptr 1 0), (8, V.ptr 2 0),
                                (9, V.int IntKind.i64 (IntKind.wrap IntKind.i64 (i + (1 : Int))))])
                            [some
                                ([V.dsl (List.length (Src.l (Prod.snd y1))) false (encs encByte (Src.l (Prod.snd y1))), V.int IntKind.i64 (↑(Src.k (Prod.snd y1)) : Int), V.int IntKind.i64 (Src.s (Prod.snd y1))],
                                  69),
                              some ([V.int IntKind.i64 (0 : Int), V.int IntKind.i64 (0 : Int), V.str [], V.dsl 0 true [], V.dsl 0 true []], 28),
                              some
                                ([V.int IntKind.i64 (5 : Int), V.int IntKind.i64 (0 : Int), V.str [], V.sl 3 0 (List.length ks + 1) false,
                                    V.sl 4 0 (List.length L + 1) false],
                                  28),
                              some ([V.sld (encs encStr ks ++ [V.str k])], 9),
                              some
                                ([V.sld
                                      (encs encJ L ++
                                        [V.int IntKind.i64 (J.kind (Prod.fst y1)), V.int IntKind.i64 (J.n (Prod.fst y1)), V.str (J.t (Prod.fst y1)),
                                          V.dsl (List.length (J.keys (Prod.fst y1))) false (encs encStr (J.keys (Prod.fst y1))), V.dsl (List.length (J.items (Prod.fst y1))) false (encs encJ (J.items (Prod.fst y1)))])],
                                  28)]
                            [0]))))))
        else
          T.done
            (Ex.normal,
              St.mk
                (mkTm 87
                  [(0, V.ptr 0 0), (1, V.int IntKind.i64 d), (4, V.ptr 1 0), (8, V.ptr 2 0),
                    (9, V.int IntKind.i64 (IntKind.wrap IntKind.i64 (i + (1 : Int))))])
                [some ([V.dsl (List.length (Src.l (Prod.snd y0))) false (encs encByte (Src.l (Prod.snd y0))), V.int IntKind.i64 (↑(Src.k (Prod.snd y0)) : Int), V.int IntKind.i64 (Src.s (Prod.snd y0))], 69),
                  some ([V.int IntKind.i64 (0 : Int), V.int IntKind.i64 (0 : Int), V.str [], V.dsl 0 true [], V.dsl 0 true []], 28),
                  some ([V.int IntKind.i64 (5 : Int), V.int IntKind.i64 (0 : Int), V.str [], V.sl 3 0 (List.length ks) false, V.sl 4 0 (List.length L) false], 28),
                  some ([V.sld (encs encStr ks)], 9), some ([V.sld (encs encJ L)], 28)]
                [0]))
  else
    T.done
      (Ex.exit 3,
        St.mk (mkTm 87 [(0, V.ptr 0 0), (1, V.int IntKind.i64 d), (4, V.ptr 1 0), (8, V.ptr 2 0), (9, V.int IntKind.i64 i)])
          [some ([V.dsl (List.length (Src.l x)) false (encs encByte (Src.l x)), V.int IntKind.i64 (↑(Src.k x) : Int), V.int IntKind.i64 (Src.s x)], 69),
            some ([V.int IntKind.i64 (0 : Int), V.int IntKind.i64 (0 : Int), V.str [], V.dsl 0 true [], V.dsl 0 true []], 28),
            some ([V.int IntKind.i64 (5 : Int), V.int IntKind.i64 (0 : Int), V.str [], V.sl 3 0 (List.length ks) false, V.sl 4 0 (List.length L) false], 28),
            some ([V.sld (encs encStr ks)], 9), some ([V.sld (encs encJ L)], 28)]
          [0]) := by kernel_rfl

theorem flatC_strs (ks : List (List UInt8)) (k : List UInt8) : flatC [.sld (encs encStr ks), .str k] = encs encStr (ks ++ [k]) := by
  rw [encs_snoc]; simp [flatC, V.can, encStr]
theorem stO1_snoc (x : Src) (d i : Int) (ks : List (List UInt8)) (L : List J) (k : List UInt8) (j : J) : stO1 x d i (ks ++ [k]) (L ++ [j]) =
    ⟨mkTm 87 [(0, .ptr 0 0), (1, .int .i64 d), (4, .ptr 1 0), (8, .ptr 2 0), (9, .int .i64 i)], [srcB x, zJ, some ([.int .i64 5, .int .i64 0, .str [], .sl 3 0 (ks.length + 1) false, .sl 4 0 (L.length + 1) false], tJ), some ([.sld (flatC [.sld (encs encStr ks), .str k])], 9), some ([.sld (flatC (.sld (encs encJ L) :: vwJ j))], tJ)], [0]⟩ := by
  rw [flatC_snoc, flatC_strs]; simp [stO1, strB]
theorem obj_key {i : Nat} {k : List UInt8} {t : List (List UInt8)} (h : objKeys.drop i = k :: t) : [V.str [97], V.str [98], V.str [107], V.str [122, 122]][0 + ((i : Int)).toNat * 1]? = some (V.str k) := by
  have h1 : (objKeys.drop i)[0]? = some k := by rw [h]; rfl
  rw [List.getElem?_drop] at h1
  have h2 : (objKeys.map V.str)[i]? = some (V.str k) := by rw [List.getElem?_map]; simpa using congrArg (Option.map V.str) h1
  rw [Int.toNat_natCast, Nat.zero_add, Nat.mul_one]; exact h2
theorem obj_next {i : Nat} {k : List UInt8} {t : List (List UInt8)} (h : objKeys.drop i = k :: t) : objKeys.drop (i + 1) = t := by
  rw [← List.drop_drop, h]; rfl

theorem chanceF_ok {x : Src} {c : Nat} {n : Int} (h : x.OK (c + 3)) (hn : 1 ≤ n) : (chanceF x n).2.OK c := (nextF_ok h hn).1

theorem obj1_loop {f : Src → J × Src} {d : Nat} {q : Nat} (hf : Draw f d q) (hd : d ≤ 1000) : ∀ (t : List (List UInt8)) (i : Nat) (x : Src) (ks : List (List UInt8)) (L : List J) (c : Nat), objKeys.drop i = t → i + t.length = 4 → x.OK (c + t.length * (q + 3)) → ks.length ≤ i → L.length ≤ i →
    LoopTo Tryz.prog 1 (lp Tryz.prog fJson 3) (stO1 x ((d + 1 : Nat) : Int) i ks L) (.exit 3) (stO1 (drawObj f t x ks L).2.2 ((d + 1 : Nat) : Int) 4 (drawObj f t x ks L).1 (drawObj f t x ks L).2.1)
  | [], i, x, ks, L, c, h1, h2, h3, h4, h5 => by
    refine loopT (E := EO f []) follows named (obj1T f [] x _ _ ks L) ?_
    obtain rfl : i = 4 := by simpa using h2
    simp only [WP_cond, T.WP, All, decide_eq_true_eq, decide_eq_false_iff_not, and_true, srcOf_mk]
    exact ⟨fun h => by omega, fun _ => ⟨rfl, rfl⟩⟩
  | k :: t, i, x, ks, L, c, h1, h2, h3, h4, h5 => by
    refine loopT (E := EO f k) follows named (obj1T f k x _ _ ks L) ?_
    simp only [List.length_cons] at h2 h3
    have hc : x.OK ((c + t.length * (q + 3) + q) + 3) := by
      refine h3.less ?_
      rw [Nat.add_mul, Nat.one_mul]; omega
    have hx := chanceF_ok (n := 2) hc (by omega)
    simp only [WP_cond, T.WP, All, decide_eq_true_eq, decide_eq_false_iff_not, and_true, srcOf_mk]
    refine ⟨fun _ y e => ⟨by subst e; exact chance_ok x 2 hc (by omega), fun hy => ?_, fun hy => ?_⟩, fun h => by omega⟩
    · subst e
      refine ⟨by omega, obj_key h1, ⟨trivial, layStr.length _, by omega, by omega⟩, fun z e => ?_⟩
      subst e
      rw [wrap_id (by omega), show ((d + 1 : Nat) : Int) - 1 = d by omega]
      refine ⟨hf.call _ _ hx, ⟨trivial, layJ.length _, by omega, by omega⟩, ?_⟩
      rw [wrap_succ (by omega)]
      have ih := obj1_loop hf hd t (i + 1) (f (chanceF x 2).2).2 (ks ++ [k]) (L ++ [(f (chanceF x 2).2).1]) c (obj_next h1) (by omega) (hf.cost _ _ hx) (by simp; omega) (by simp; omega)
      rw [stO1_snoc] at ih
      simp only [drawObj, hy, if_true]
      exact ih
    · subst e
      rw [wrap_succ (by omega)]
      have ih := obj1_loop hf hd t (i + 1) (chanceF x 2).2 ks L c (obj_next h1) (by omega) (hx.less (by omega)) (by omega) (by omega)
      simp only [drawObj, hy, Bool.false_eq_true, if_false]
      exact ih

/-- The state behind the object's loop. -/
def stO (x : Src) (d i : Int) (ks : List (List UInt8)) (L : List J) : St := match ks with
  | [] => stO0 x d i
  | k :: ks => stO1 x d i (k :: ks) L
theorem stO_ne (x : Src) (d i : Int) (ks : List (List UInt8)) (L : List J) (h : ks ≠ []) : stO x d i ks L = stO1 x d i ks L := by
  cases ks with
  | nil => exact absurd rfl h
  | cons => rfl
theorem drawObj_ne {f : Src → J × Src} : ∀ (t : List (List UInt8)) (x : Src) (ks : List (List UInt8)) (L : List J), ks ≠ [] → (drawObj f t x ks L).1 ≠ []
  | [], _, _, _, h => h
  | k :: t, x, ks, L, h => by
    unfold drawObj
    split
    · exact drawObj_ne t _ _ _ (by simp)
    · exact drawObj_ne t _ _ _ h

theorem obj0_loop {f : Src → J × Src} {d : Nat} {q : Nat} (hf : Draw f d q) (hd : d ≤ 1000) : ∀ (t : List (List UInt8)) (i : Nat) (x : Src) (c : Nat), objKeys.drop i = t → i + t.length = 4 → x.OK (c + t.length * (q + 3)) →
    LoopTo Tryz.prog 1 (lp Tryz.prog fJson 3) (stO0 x ((d + 1 : Nat) : Int) i) (.exit 3) (stO (drawObj f t x [] []).2.2 ((d + 1 : Nat) : Int) 4 (drawObj f t x [] []).1 (drawObj f t x [] []).2.1)
  | [], i, x, c, h1, h2, h3 => by
    refine loopT (E := EO f []) follows named (obj0T f [] x _ _) ?_
    obtain rfl : i = 4 := by simpa using h2
    simp only [WP_cond, T.WP, All, decide_eq_true_eq, decide_eq_false_iff_not, and_true, srcOf_mk]
    exact ⟨fun h => by omega, fun _ => ⟨rfl, rfl⟩⟩
  | k :: t, i, x, c, h1, h2, h3 => by
    refine loopT (E := EO f k) follows named (obj0T f k x _ _) ?_
    simp only [List.length_cons] at h2 h3
    have hc : x.OK ((c + t.length * (q + 3) + q) + 3) := by
      refine h3.less ?_
      rw [Nat.add_mul, Nat.one_mul]; omega
    have hx := chanceF_ok (n := 2) hc (by omega)
    simp only [WP_cond, T.WP, All, decide_eq_true_eq, decide_eq_false_iff_not, and_true, srcOf_mk]
    refine ⟨fun _ y e => ⟨by subst e; exact chance_ok x 2 hc (by omega), fun hy => ?_, fun hy => ?_⟩, fun h => by omega⟩
    · subst e
      refine ⟨by omega, obj_key h1, by simp, fun z e => ?_⟩
      subst e
      rw [wrap_id (by omega), show ((d + 1 : Nat) : Int) - 1 = d by omega]
      refine ⟨hf.call _ _ hx, by simp, ?_⟩
      rw [wrap_succ (by omega)]
      have ih := obj1_loop hf hd t (i + 1) (f (chanceF x 2).2).2 ([] ++ [k]) ([] ++ [(f (chanceF x 2).2).1]) c (obj_next h1) (by omega) (hf.cost _ _ hx) (by simp) (by simp)
      rw [stO1_snoc] at ih
      simp only [drawObj, hy, if_true]
      rw [stO_ne _ _ _ _ _ (drawObj_ne _ _ _ _ (by simp))]
      exact ih
    · subst e
      rw [wrap_succ (by omega)]
      have ih := obj0_loop hf hd t (i + 1) (chanceF x 2).2 c (obj_next h1) (by omega) (hx.less (by omega))
      simp only [drawObj, hy, Bool.false_eq_true, if_false]
      exact ih

end Go.Proofs.YtjgancippgpdhaaGreatDoor

namespace Go.Proofs.YtjgancippgpdhaaGreatDoor
open Go.RowKit
set_option maxRecDepth 100000

noncomputable def lsJson (f : Src → J × Src) : Nat → St → Option LRes := fun id s => match s.hp with
  | some ([.dsl _ _ cs, .int _ k, .int _ sd], _) :: _ => match id, s.tm.get 1, s.tm.get 7 with
    | 1, .int _ d, .int _ i => some ⟨drawList f i.toNat (srcOf cs k sd) [], fun y => .two { keep := [0, 1, 4, 6, 7] } (stL0 (srcOf cs k sd) d i) y.1.isEmpty (.exit 1) (stL0 y.2 d 0) (.exit 1) (stL1 y.2 d 0 y.1)⟩
    | 3, .int _ d, _ => some ⟨drawObj f objKeys (srcOf cs k sd) [] [], fun y => .two { keep := [0, 1, 4, 8, 9] } (stO0 (srcOf cs k sd) d 0) y.1.isEmpty (.exit 3) (stO0 y.2.2 d 4) (.exit 3) (stO1 y.2.2 d 4 y.1 y.2.1)⟩
    | _, _, _ => none
  | _ => none
noncomputable def resText : ResT := fun f vs hp => match vs, hp with
  | [.ptr 0 0], [some ([.dsl _ _ cs, .int _ k, .int _ s], _)] => bif Nat.beq f fJsText then some ⟨pickF (srcOf cs k s) jsTexts, fun y => ⟨.str y.1, [srcB y.2], [0]⟩⟩ else none
  | _, _ => none
noncomputable def EK (f : Src → J × Src) (v : Int) : Env := { P := Tryz.prog, vw := vwA, res := (resNext.or resPick).or resText, ls := lsJson f, vs := [(10, 8, .int .i64 v)] }

--FOLD srcB vwJ stL0 stL1 stO0 stO1 zJ
set_option maxRecDepth 100000 in
theorem json0T (f : Src → J × Src) (v : Int) (x : Src) : fnT (EK f v) 0 fJson [.ptr 0 0, .int .i64 0] [srcB x] =
  T.bind (nextF (srcOf (encs encByte (Src.l x)) (↑(Src.k x) : Int) (Src.s x)) (6 : Int)) fun y0 =>
    T.need [FnOK (Env.P (EK f v)) 52 [V.ptr 0 0, V.int IntKind.i64 (6 : Int)] [srcB x] (Ret.mk (V.int IntKind.i64 (Prod.fst y0)) [srcB (Prod.snd y0)] [0])]
      (T.bind (nextF (srcOf (encs encByte (Src.l (Prod.snd y0))) (↑(Src.k (Prod.snd y0)) : Int) (Src.s (Prod.snd y0))) (4 : Int)) fun y1 =>
        T.need [FnOK (Env.P (EK f v)) 52 [V.ptr 0 0, V.int IntKind.i64 (4 : Int)] [srcB (Prod.snd y0)] (Ret.mk (V.int IntKind.i64 (Prod.fst y1)) [srcB (Prod.snd y1)] [0])]
          (bif Prod.fst y1 == (0 : Int) then T.done (Ret.mk (V.agg [V.int IntKind.i64 (0 : Int), V.int IntKind.i64 (0 : Int), V.str [], V.dsl 0 false [], V.dsl 0 false []]) [srcB (Prod.snd y1)] [0])
          else
            bif Prod.fst y1 == (1 : Int) then
              T.bind (nextF (srcOf (encs encByte (Src.l (Prod.snd y1))) (↑(Src.k (Prod.snd y1)) : Int) (Src.s (Prod.snd y1))) (2 : Int)) fun y2 =>
                T.need [FnOK (Env.P (EK f v)) 52 [V.ptr 0 0, V.int IntKind.i64 (2 : Int)] [srcB (Prod.snd y1)] (Ret.mk (V.int IntKind.i64 (Prod.fst y2)) [srcB (Prod.snd y2)] [0])]
                  (T.done (Ret.mk (V.agg [V.int IntKind.i64 (1 : Int), V.int IntKind.i64 (Prod.fst y2), V.str [], V.dsl 0 false [], V.dsl 0 false []]) [srcB (Prod.snd y2)] [0]))
            else
              bif Prod.fst y1 == (2 : Int) then
                T.bind (nextF (srcOf (encs encByte (Src.l (Prod.snd y1))) (↑(Src.k (Prod.snd y1)) : Int) (Src.s (Prod.snd y1))) (20 : Int)) fun y3 =>
                  T.need [FnOK (Env.P (EK f v)) 52 [V.ptr 0 0, V.int IntKind.i64 (20 : Int)] [srcB (Prod.snd y1)] (Ret.mk (V.int IntKind.i64 (Prod.fst y3)) [srcB (Prod.snd y3)] [0])]
                    (T.bind (nextF (srcOf (encs encByte (Src.l (Prod.snd y3))) (↑(Src.k (Prod.snd y3)) : Int) (Src.s (Prod.snd y3))) (6 : Int)) fun y4 =>
                      T.need [FnOK (Env.P (EK f v)) 52 [V.ptr 0 0, V.int IntKind.i64 (6 : Int)] [srcB (Prod.snd y3)] (Ret.mk (V.int IntKind.i64 (Prod.fst y4)) [srcB (Prod.snd y4)] [0])]
                        (T.need [(5 : Int) ≠ (0 : Int)]
                          (T.need [(0 : Int) ≤ IntKind.wrap IntKind.i64 (Int.tdiv (Prod.fst y4) (5 : Int)) ∧ IntKind.wrap IntKind.i64 (Int.tdiv (Prod.fst y4) (5 : Int)) < (2 : Int)]
                            (T.need
                              [[V.int IntKind.i64 (IntKind.wrap IntKind.i64 (Prod.fst y3 - (9 : Int))),
                                      V.int IntKind.i64 (1000000000 : Int)][0 + Int.toNat (IntKind.wrap IntKind.i64 (Int.tdiv (Prod.fst y4) (5 : Int))) * 1]? =
                                  some (V.int IntKind.i64 v)]
                              (T.done (Ret.mk (V.agg [V.int IntKind.i64 (2 : Int), V.int IntKind.i64 v, V.str [], V.dsl 0 false [], V.dsl 0 false []]) [srcB (Prod.snd y4)] [0]))))))
              else
                bif Prod.fst y1 == (3 : Int) then
                  T.bind
                    (pickF (srcOf (encs encByte (Src.l (Prod.snd y1))) (↑(Src.k (Prod.snd y1)) : Int) (Src.s (Prod.snd y1)))
                      [[], [(97 : UInt8)], [(98 : UInt8)], [(107 : UInt8)], [(116 : UInt8), (119 : UInt8), (111 : UInt8), (32 : UInt8), (119 : UInt8), (111 : UInt8), (114 : UInt8), (100 : UInt8), (115 : UInt8)],
                        [(113 : UInt8), (34 : UInt8), (113 : UInt8)], [(98 : UInt8), (92 : UInt8), (98 : UInt8)], [(122 : UInt8), (122 : UInt8)]])
                    fun y5 =>
                    T.need [FnOK (Env.P (EK f v)) 53 [V.ptr 0 0] [srcB (Prod.snd y1)] (Ret.mk (V.str (Prod.fst y5)) [srcB (Prod.snd y5)] [0])]
                      (T.done (Ret.mk (V.agg [V.int IntKind.i64 (3 : Int), V.int IntKind.i64 (0 : Int), V.str (Prod.fst y5), V.dsl 0 false [], V.dsl 0 false []]) [srcB (Prod.snd y5)] [0]))
                else
                  bif Prod.fst y1 == (4 : Int) then
                    T.bind (nextF (srcOf (encs encByte (Src.l (Prod.snd y1))) (↑(Src.k (Prod.snd y1)) : Int) (Src.s (Prod.snd y1))) (4 : Int)) fun y6 =>
                      T.need [FnOK (Env.P (EK f v)) 52 [V.ptr 0 0, V.int IntKind.i64 (4 : Int)] [srcB (Prod.snd y1)] (Ret.mk (V.int IntKind.i64 (Prod.fst y6)) [srcB (Prod.snd y6)] [0])]
                        (T.bind (drawList f (Int.toNat (Prod.fst y6)) (srcOf (encs encByte (Src.l (Prod.snd y6))) (↑(Src.k (Prod.snd y6)) : Int) (Src.s (Prod.snd y6))) []) fun y7 =>
                          T.need [stL0 (Prod.snd y6) (0 : Int) (Prod.fst y6) = stL0 (srcOf (encs encByte (Src.l (Prod.snd y6))) (↑(Src.k (Prod.snd y6)) : Int) (Src.s (Prod.snd y6))) (0 : Int) (Prod.fst y6)]
                            (bif List.isEmpty (Prod.fst y7) then
                              T.need
                                [SoundC (Env.P (EK f v)) 1 (blk Tryz.prog fJson 1)
                                    (stL0 (srcOf (encs encByte (Src.l (Prod.snd y6))) (↑(Src.k (Prod.snd y6)) : Int) (Src.s (Prod.snd y6))) (0 : Int) (Prod.fst y6)) (Ex.exit 1)
                                    (stL0 (Prod.snd y7) (0 : Int) (0 : Int))]
                                (T.done (Ret.mk (V.agg [V.int IntKind.i64 (4 : Int), V.int IntKind.i64 (0 : Int), V.str [], V.dsl 0 false [], V.dsl 0 false []]) [srcB (Prod.snd y7)] [0]))
                            else
                              T.need
                                [SoundC (Env.P (EK f v)) 1 (blk Tryz.prog fJson 1)
                                    (stL0 (srcOf (encs encByte (Src.l (Prod.snd y6))) (↑(Src.k (Prod.snd y6)) : Int) (Src.s (Prod.snd y6))) (0 : Int) (Prod.fst y6)) (Ex.exit 1)
                                    (stL1 (Prod.snd y7) (0 : Int) (0 : Int) (Prod.fst y7))]
                                (T.done
                                  (Ret.mk (V.agg [V.int IntKind.i64 (4 : Int), V.int IntKind.i64 (0 : Int), V.str [], V.dsl 0 false [], V.dsl (List.length (Prod.fst y7)) false (encs encJ (Prod.fst y7))])
                                    [srcB (Prod.snd y7)] [0]))))
                  else
                    T.bind
                      (drawObj f [[(97 : UInt8)], [(98 : UInt8)], [(107 : UInt8)], [(122 : UInt8), (122 : UInt8)]] (srcOf (encs encByte (Src.l (Prod.snd y1))) (↑(Src.k (Prod.snd y1)) : Int) (Src.s (Prod.snd y1))) [] [])
                      fun y8 =>
                      T.need [stO0 (Prod.snd y1) (0 : Int) (0 : Int) = stO0 (srcOf (encs encByte (Src.l (Prod.snd y1))) (↑(Src.k (Prod.snd y1)) : Int) (Src.s (Prod.snd y1))) (0 : Int) (0 : Int)]
                        (bif List.isEmpty (Prod.fst y8) then
                          T.need
                            [SoundC (Env.P (EK f v)) 1 (blk Tryz.prog fJson 3) (stO0 (srcOf (encs encByte (Src.l (Prod.snd y1))) (↑(Src.k (Prod.snd y1)) : Int) (Src.s (Prod.snd y1))) (0 : Int) (0 : Int))
                                (Ex.exit 3) (stO0 (Prod.snd (Prod.snd y8)) (0 : Int) (4 : Int))]
                            (T.done (Ret.mk (V.agg [V.int IntKind.i64 (5 : Int), V.int IntKind.i64 (0 : Int), V.str [], V.dsl 0 false [], V.dsl 0 false []]) [srcB (Prod.snd (Prod.snd y8))] [0]))
                        else
                          T.need
                            [SoundC (Env.P (EK f v)) 1 (blk Tryz.prog fJson 3) (stO0 (srcOf (encs encByte (Src.l (Prod.snd y1))) (↑(Src.k (Prod.snd y1)) : Int) (Src.s (Prod.snd y1))) (0 : Int) (0 : Int))
                                (Ex.exit 3) (stO1 (Prod.snd (Prod.snd y8)) (0 : Int) (4 : Int) (Prod.fst y8) (Prod.fst (Prod.snd y8)))]
                            (T.done
                              (Ret.mk
                                (V.agg
                                  [V.int IntKind.i64 (5 : Int), V.int IntKind.i64 (0 : Int), V.str [], V.dsl (List.length (Prod.fst y8)) false (encs encStr (Prod.fst y8)),
                                    V.dsl (List.length (Prod.fst (Prod.snd y8))) false (encs encJ (Prod.fst (Prod.snd y8)))])
                                [srcB (Prod.snd (Prod.snd y8))] [0]))))) := (T.force_eq _).symm.trans (by kernel_rfl)

set_option maxRecDepth 100000 in
theorem jsonST (f : Src → J × Src) (v : Int) (x : Src) (d : Nat) : fnT (EK f v) 0 fJson [.ptr 0 0, .int .i64 ((d + 1 : Nat) : Int)] [srcB x] =
  T.bind (nextF (srcOf (encs encByte (Src.l x)) (↑(Src.k x) : Int) (Src.s x)) (6 : Int)) fun y0 =>
    T.need [FnOK (Env.P (EK f v)) 52 [V.ptr 0 0, V.int IntKind.i64 (6 : Int)] [srcB x] (Ret.mk (V.int IntKind.i64 (Prod.fst y0)) [srcB (Prod.snd y0)] [0])]
      (bif Prod.fst y0 == (0 : Int) then T.done (Ret.mk (V.agg [V.int IntKind.i64 (0 : Int), V.int IntKind.i64 (0 : Int), V.str [], V.dsl 0 false [], V.dsl 0 false []]) [srcB (Prod.snd y0)] [0])
      else
        bif Prod.fst y0 == (1 : Int) then
          T.bind (nextF (srcOf (encs encByte (Src.l (Prod.snd y0))) (↑(Src.k (Prod.snd y0)) : Int) (Src.s (Prod.snd y0))) (2 : Int)) fun y1 =>
            T.need [FnOK (Env.P (EK f v)) 52 [V.ptr 0 0, V.int IntKind.i64 (2 : Int)] [srcB (Prod.snd y0)] (Ret.mk (V.int IntKind.i64 (Prod.fst y1)) [srcB (Prod.snd y1)] [0])]
              (T.done (Ret.mk (V.agg [V.int IntKind.i64 (1 : Int), V.int IntKind.i64 (Prod.fst y1), V.str [], V.dsl 0 false [], V.dsl 0 false []]) [srcB (Prod.snd y1)] [0]))
        else
          bif Prod.fst y0 == (2 : Int) then
            T.bind (nextF (srcOf (encs encByte (Src.l (Prod.snd y0))) (↑(Src.k (Prod.snd y0)) : Int) (Src.s (Prod.snd y0))) (20 : Int)) fun y2 =>
              T.need [FnOK (Env.P (EK f v)) 52 [V.ptr 0 0, V.int IntKind.i64 (20 : Int)] [srcB (Prod.snd y0)] (Ret.mk (V.int IntKind.i64 (Prod.fst y2)) [srcB (Prod.snd y2)] [0])]
                (T.bind (nextF (srcOf (encs encByte (Src.l (Prod.snd y2))) (↑(Src.k (Prod.snd y2)) : Int) (Src.s (Prod.snd y2))) (6 : Int)) fun y3 =>
                  T.need [FnOK (Env.P (EK f v)) 52 [V.ptr 0 0, V.int IntKind.i64 (6 : Int)] [srcB (Prod.snd y2)] (Ret.mk (V.int IntKind.i64 (Prod.fst y3)) [srcB (Prod.snd y3)] [0])]
                    (T.need [(5 : Int) ≠ (0 : Int)]
                      (T.need [(0 : Int) ≤ IntKind.wrap IntKind.i64 (Int.tdiv (Prod.fst y3) (5 : Int)) ∧ IntKind.wrap IntKind.i64 (Int.tdiv (Prod.fst y3) (5 : Int)) < (2 : Int)]
                        (T.need
                          [[V.int IntKind.i64 (IntKind.wrap IntKind.i64 (Prod.fst y2 - (9 : Int))),
                                  V.int IntKind.i64 (1000000000 : Int)][0 + Int.toNat (IntKind.wrap IntKind.i64 (Int.tdiv (Prod.fst y3) (5 : Int))) * 1]? =
                              some (V.int IntKind.i64 v)]
                          (T.done (Ret.mk (V.agg [V.int IntKind.i64 (2 : Int), V.int IntKind.i64 v, V.str [], V.dsl 0 false [], V.dsl 0 false []]) [srcB (Prod.snd y3)] [0]))))))
          else
            bif Prod.fst y0 == (3 : Int) then
              T.bind
                (pickF (srcOf (encs encByte (Src.l (Prod.snd y0))) (↑(Src.k (Prod.snd y0)) : Int) (Src.s (Prod.snd y0)))
                  [[], [(97 : UInt8)], [(98 : UInt8)], [(107 : UInt8)], [(116 : UInt8), (119 : UInt8), (111 : UInt8), (32 : UInt8), (119 : UInt8), (111 : UInt8), (114 : UInt8), (100 : UInt8), (115 : UInt8)],
                    [(113 : UInt8), (34 : UInt8), (113 : UInt8)], [(98 : UInt8), (92 : UInt8), (98 : UInt8)], [(122 : UInt8), (122 : UInt8)]])
                fun y4 =>
                T.need [FnOK (Env.P (EK f v)) 53 [V.ptr 0 0] [srcB (Prod.snd y0)] (Ret.mk (V.str (Prod.fst y4)) [srcB (Prod.snd y4)] [0])]
                  (T.done (Ret.mk (V.agg [V.int IntKind.i64 (3 : Int), V.int IntKind.i64 (0 : Int), V.str (Prod.fst y4), V.dsl 0 false [], V.dsl 0 false []]) [srcB (Prod.snd y4)] [0]))
            else
              bif Prod.fst y0 == (4 : Int) then
                T.bind (nextF (srcOf (encs encByte (Src.l (Prod.snd y0))) (↑(Src.k (Prod.snd y0)) : Int) (Src.s (Prod.snd y0))) (4 : Int)) fun y5 =>
                  T.need [FnOK (Env.P (EK f v)) 52 [V.ptr 0 0, V.int IntKind.i64 (4 : Int)] [srcB (Prod.snd y0)] (Ret.mk (V.int IntKind.i64 (Prod.fst y5)) [srcB (Prod.snd y5)] [0])]
                    (T.bind (drawList f (Int.toNat (Prod.fst y5)) (srcOf (encs encByte (Src.l (Prod.snd y5))) (↑(Src.k (Prod.snd y5)) : Int) (Src.s (Prod.snd y5))) []) fun y6 =>
                      T.need
                        [stL0 (Prod.snd y5) (↑(d + 1) : Int) (Prod.fst y5) =
                            stL0 (srcOf (encs encByte (Src.l (Prod.snd y5))) (↑(Src.k (Prod.snd y5)) : Int) (Src.s (Prod.snd y5))) (↑(d + 1) : Int) (Prod.fst y5)]
                        (bif List.isEmpty (Prod.fst y6) then
                          T.need
                            [SoundC (Env.P (EK f v)) 1 (blk Tryz.prog fJson 1)
                                (stL0 (srcOf (encs encByte (Src.l (Prod.snd y5))) (↑(Src.k (Prod.snd y5)) : Int) (Src.s (Prod.snd y5))) (↑(d + 1) : Int) (Prod.fst y5)) (Ex.exit 1)
                                (stL0 (Prod.snd y6) (↑(d + 1) : Int) (0 : Int))]
                            (T.done (Ret.mk (V.agg [V.int IntKind.i64 (4 : Int), V.int IntKind.i64 (0 : Int), V.str [], V.dsl 0 false [], V.dsl 0 false []]) [srcB (Prod.snd y6)] [0]))
                        else
                          T.need
                            [SoundC (Env.P (EK f v)) 1 (blk Tryz.prog fJson 1)
                                (stL0 (srcOf (encs encByte (Src.l (Prod.snd y5))) (↑(Src.k (Prod.snd y5)) : Int) (Src.s (Prod.snd y5))) (↑(d + 1) : Int) (Prod.fst y5)) (Ex.exit 1)
                                (stL1 (Prod.snd y6) (↑(d + 1) : Int) (0 : Int) (Prod.fst y6))]
                            (T.done
                              (Ret.mk (V.agg [V.int IntKind.i64 (4 : Int), V.int IntKind.i64 (0 : Int), V.str [], V.dsl 0 false [], V.dsl (List.length (Prod.fst y6)) false (encs encJ (Prod.fst y6))])
                                [srcB (Prod.snd y6)] [0]))))
              else
                T.bind (drawObj f [[(97 : UInt8)], [(98 : UInt8)], [(107 : UInt8)], [(122 : UInt8), (122 : UInt8)]] (srcOf (encs encByte (Src.l (Prod.snd y0))) (↑(Src.k (Prod.snd y0)) : Int) (Src.s (Prod.snd y0))) [] [])
                  fun y7 =>
                  T.need [stO0 (Prod.snd y0) (↑(d + 1) : Int) (0 : Int) = stO0 (srcOf (encs encByte (Src.l (Prod.snd y0))) (↑(Src.k (Prod.snd y0)) : Int) (Src.s (Prod.snd y0))) (↑(d + 1) : Int) (0 : Int)]
                    (bif List.isEmpty (Prod.fst y7) then
                      T.need
                        [SoundC (Env.P (EK f v)) 1 (blk Tryz.prog fJson 3)
                            (stO0 (srcOf (encs encByte (Src.l (Prod.snd y0))) (↑(Src.k (Prod.snd y0)) : Int) (Src.s (Prod.snd y0))) (↑(d + 1) : Int) (0 : Int)) (Ex.exit 3)
                            (stO0 (Prod.snd (Prod.snd y7)) (↑(d + 1) : Int) (4 : Int))]
                        (T.done (Ret.mk (V.agg [V.int IntKind.i64 (5 : Int), V.int IntKind.i64 (0 : Int), V.str [], V.dsl 0 false [], V.dsl 0 false []]) [srcB (Prod.snd (Prod.snd y7))] [0]))
                    else
                      T.need
                        [SoundC (Env.P (EK f v)) 1 (blk Tryz.prog fJson 3)
                            (stO0 (srcOf (encs encByte (Src.l (Prod.snd y0))) (↑(Src.k (Prod.snd y0)) : Int) (Src.s (Prod.snd y0))) (↑(d + 1) : Int) (0 : Int)) (Ex.exit 3)
                            (stO1 (Prod.snd (Prod.snd y7)) (↑(d + 1) : Int) (4 : Int) (Prod.fst y7) (Prod.fst (Prod.snd y7)))]
                        (T.done
                          (Ret.mk
                            (V.agg
                              [V.int IntKind.i64 (5 : Int), V.int IntKind.i64 (0 : Int), V.str [], V.dsl (List.length (Prod.fst y7)) false (encs encStr (Prod.fst y7)),
                                V.dsl (List.length (Prod.fst (Prod.snd y7))) false (encs encJ (Prod.fst (Prod.snd y7)))])
                            [srcB (Prod.snd (Prod.snd y7))] [0])))) := (T.force_eq _).symm.trans (by kernel_rfl)

set_option maxRecDepth 100000 in
theorem blk1 {s s' : St} {ex : Ex} (h : LoopTo Tryz.prog 1 (lp Tryz.prog fJson 1) s ex s') : SoundC Tryz.prog 1 (blk Tryz.prog fJson 1) s ex s' := .loopTo h
set_option maxRecDepth 100000 in
theorem blk3 {s s' : St} {ex : Ex} (h : LoopTo Tryz.prog 1 (lp Tryz.prog fJson 3) s ex s') : SoundC Tryz.prog 1 (blk Tryz.prog fJson 3) s ex s' := .loopTo h

theorem drawList_ne {f : Src → J × Src} : ∀ (i : Nat) (x : Src) (L : List J), L ≠ [] → (drawList f i x L).1 ≠ []
  | 0, _, _, h => h
  | i + 1, x, L, h => by
    unfold drawList
    exact drawList_ne i _ _ (by simp)
theorem drawObj_len {f : Src → J × Src} : ∀ (t : List (List UInt8)) (x : Src) (ks : List (List UInt8)) (L : List J), ks.length = L.length → (drawObj f t x ks L).1.length = (drawObj f t x ks L).2.1.length
  | [], _, _, _, h => h
  | k :: t, x, ks, L, h => by
    unfold drawObj
    split
    · exact drawObj_len t _ _ _ (by simp [h])
    · exact drawObj_len t _ _ _ h
theorem drawList_cost {f : Src → J × Src} {d : Int} {q : Nat} (hf : Draw f d q) : ∀ (i : Nat) (x : Src) (L : List J) (c : Nat), x.OK (c + i * q) → (drawList f i x L).2.OK c
  | 0, x, L, c, h => by simpa [drawList] using h
  | i + 1, x, L, c, h => by
    unfold drawList
    refine drawList_cost hf i _ _ c (hf.cost x _ ?_)
    rw [Nat.add_mul, Nat.one_mul, ← Nat.add_assoc] at h; exact h
theorem drawObj_cost {f : Src → J × Src} {d : Int} {q : Nat} (hf : Draw f d q) : ∀ (t : List (List UInt8)) (x : Src) (ks : List (List UInt8)) (L : List J) (c : Nat), x.OK (c + t.length * (q + 3)) → (drawObj f t x ks L).2.2.OK c
  | [], x, ks, L, c, h => by simpa [drawObj] using h
  | k :: t, x, ks, L, c, h => by
    have hc : x.OK ((c + t.length * (q + 3) + q) + 3) := by
      refine h.less ?_
      rw [List.length_cons, Nat.add_mul, Nat.one_mul]; omega
    have hx := chanceF_ok (n := 2) hc (by omega)
    unfold drawObj
    split
    · exact drawObj_cost hf t _ _ _ c (hf.cost _ _ hx)
    · exact drawObj_cost hf t _ _ _ c (hx.less (by omega))

/-- The scalar kinds: what they cost. -/
theorem jsonK_cost {f : Src → J × Src} {d : Int} {q : Nat} {k : Int} (hf : 4 ≤ k → Draw f d q) {x : Src} {c : Nat} (h : x.OK (c + (4 * q + 15))) (hk : 0 ≤ k) : (jsonK f k x).2.OK c := by
  unfold jsonK
  split
  · exact h.less (by omega)
  · split
    · exact (nextF_ok (c := c) (h.less (by omega)) (by omega)).1
    · split
      · have h1 := nextF_ok (c := c + 3) (n := 20) (h.less (by omega)) (by omega)
        exact (nextF_ok (c := c) h1.1 (by omega)).1
      · split
        · exact (pickF_ok (c := c) (h.less (by omega)) (by simp [jsTexts])).1
        · split
          · have h1 := nextF_ok (c := c + 4 * q) (n := 4) (h.less (by omega)) (by omega)
            refine drawList_cost (hf (by omega)) _ _ _ c (h1.1.less ?_)
            have h3 : (nextF x 4).1.toNat ≤ 4 := by omega
            have := Nat.mul_le_mul_right q h3
            omega
          · exact drawObj_cost (hf (by omega)) _ _ _ _ c (h.less (by simp only [objKeys, List.length_cons, List.length_nil]; omega))

def qF : Nat → Nat
  | 0 => 21
  | d + 1 => 4 * qF d + 18
theorem num_at (a b : Int) (k : Int) (h : 0 ≤ k ∧ k < 2) : ([V.int .i64 a, .int .i64 b] : List V)[0 + k.toNat * 1]? = some (.int .i64 ([a, b].getD k.toNat 0)) := by
  have : k = 0 ∨ k = 1 := by omega
  rcases this with rfl | rfl <;> rfl

theorem json_zero : Draw (jsonF 0) 0 (qF 0) := by
  have hcost : ∀ (x : Src) (c : Nat), x.OK (c + 21) → (jsonF 0 x).2.OK c := by
    intro x c h
    have h1 := nextF_ok (c := c + 18) (n := 6) h (by omega)
    have h2 := nextF_ok (c := c + 15) (n := 4) h1.1 (by omega)
    exact jsonK_cost (q := 0) (d := 0) (fun h => by omega) h2.1 h2.2.1
  refine ⟨fun x c h => ?_, hcost⟩
  have h1 := nextF_ok (c := c + 18) (n := 6) h (by omega)
  have h2 := nextF_ok (c := c + 15) (n := 4) h1.1 (by omega)
  have h3 := nextF_ok (c := c + 12) (n := 20) h2.1 (by omega)
  have h4 := nextF_ok (c := c + 9) (n := 6) h3.1 (by omega)
  have h5 : 0 ≤ (nextF (nextF (nextF (nextF x 6).2 4).2 20).2 6).1.tdiv 5 := Int.tdiv_nonneg h4.2.1 (by omega)
  have h6 : (nextF (nextF (nextF (nextF x 6).2 4).2 20).2 6).1.tdiv 5 < 2 := by rw [Int.tdiv_eq_ediv_of_nonneg h4.2.1]; omega
  refine fnOK_TL (E := EK (jsonF 0) ([(nextF (nextF (nextF x 6).2 4).2 20).1 - 9, 1000000000].getD ((nextF (nextF (nextF (nextF x 6).2 4).2 20).2 6).1.tdiv 5).toNat 0)) follows named (json0T _ _ x) (by simp) ?_
  simp only [WP_cond, T.WP, All, and_true, beq_iff_eq, beq_eq_false_iff_ne, ne_eq, srcOf_mk, jsonF]
  intro y0 e0
  subst e0
  refine ⟨next_ok _ _ h, fun y1 e1 => ?_⟩
  subst e1
  refine ⟨next_ok _ _ h1.1, fun hk => ?_, fun hk => ⟨fun hk1 y2 e2 => ?_, fun hk1 => ⟨fun hk2 y2 e2 => ?_, fun hk2 => ⟨fun hk3 y2 e2 => ?_, fun hk3 => ⟨fun hk4 => by omega, fun hk4 => by omega⟩⟩⟩⟩⟩
  · simp only [jsonK, hk, if_true]; exact ⟨rfl, rfl, by simp⟩
  · subst e2
    refine ⟨next_ok _ _ h2.1, ?_⟩
    simp only [jsonK, hk1]; exact ⟨rfl, rfl, by simp⟩
  · subst e2
    refine ⟨next_ok _ _ h2.1, fun y3 e3 => ?_⟩
    subst e3
    refine ⟨next_ok _ _ h3.1, by omega, ?_⟩
    rw [wrap_id (n := (nextF (nextF (nextF x 6).2 4).2 20).1 - 9) (by omega), wrap_id (by omega)]
    refine ⟨⟨h5, h6⟩, num_at _ _ _ ⟨h5, h6⟩, ?_⟩
    simp only [jsonK, hk2]; exact ⟨rfl, rfl, by simp⟩
  · subst e2
    refine ⟨jsText_ok _ h2.1, ?_⟩
    simp only [jsonK, hk3]; exact ⟨rfl, rfl, by simp⟩

theorem json_succ {d : Nat} (hd : d ≤ 900) (ih : Draw (jsonF d) d (qF d)) : Draw (jsonF (d + 1)) ((d + 1 : Nat) : Int) (qF (d + 1)) := by
  have hcost : ∀ (x : Src) (c : Nat), x.OK (c + (4 * qF d + 18)) → (jsonF (d + 1) x).2.OK c := by
    intro x c h
    have h1 := nextF_ok (c := c + (4 * qF d + 15)) (n := 6) (h.less (by omega)) (by omega)
    exact jsonK_cost (fun _ => ih) h1.1 h1.2.1
  refine ⟨fun x c h => ?_, hcost⟩
  simp only [qF] at h
  have h2 := nextF_ok (c := c + (4 * qF d + 15)) (n := 6) (h.less (by omega)) (by omega)
  have h3 := nextF_ok (c := c + (4 * qF d + 12)) (n := 20) (h2.1.less (by omega)) (by omega)
  have h4 := nextF_ok (c := c + (4 * qF d + 9)) (n := 6) (h3.1.less (by omega)) (by omega)
  have h5 : 0 ≤ (nextF (nextF (nextF x 6).2 20).2 6).1.tdiv 5 := Int.tdiv_nonneg h4.2.1 (by omega)
  have h6 : (nextF (nextF (nextF x 6).2 20).2 6).1.tdiv 5 < 2 := by rw [Int.tdiv_eq_ediv_of_nonneg h4.2.1]; omega
  have h7 := nextF_ok (c := c + 4 * qF d) (n := 4) (h2.1.less (by omega)) (by omega)
  refine fnOK_TL (E := EK (jsonF d) ([(nextF (nextF x 6).2 20).1 - 9, 1000000000].getD ((nextF (nextF (nextF x 6).2 20).2 6).1.tdiv 5).toNat 0)) follows named (jsonST _ _ x d) (by simp) ?_
  simp only [WP_cond, T.WP, All, and_true, beq_iff_eq, beq_eq_false_iff_ne, ne_eq, srcOf_mk, jsonF]
  intro y1 e1
  subst e1
  refine ⟨next_ok (c := c) _ _ (h.less (by omega)), fun hk => ?_, fun hk => ⟨fun hk1 y2 e2 => ?_, fun hk1 => ⟨fun hk2 y2 e2 => ?_, fun hk2 => ⟨fun hk3 y2 e2 => ?_, fun hk3 => ⟨fun hk4 y2 e2 => ?_, fun hk4 y2 e2 => ?_⟩⟩⟩⟩⟩
  · simp only [jsonK, hk, if_true]; exact ⟨rfl, rfl, by simp⟩
  · subst e2
    refine ⟨next_ok (c := c) _ _ (h2.1.less (by omega)), ?_⟩
    simp only [jsonK, hk1]; exact ⟨rfl, rfl, by simp⟩
  · subst e2
    refine ⟨next_ok (c := c) _ _ (h2.1.less (by omega)), fun y3 e3 => ?_⟩
    subst e3
    refine ⟨next_ok (c := c) _ _ (h3.1.less (by omega)), by omega, ?_⟩
    rw [wrap_id (n := (nextF (nextF x 6).2 20).1 - 9) (by omega), wrap_id (by omega)]
    refine ⟨⟨h5, h6⟩, num_at _ _ _ ⟨h5, h6⟩, ?_⟩
    simp only [jsonK, hk2]; exact ⟨rfl, rfl, by simp⟩
  · subst e2
    refine ⟨jsText_ok (c := c) _ (h2.1.less (by omega)), ?_⟩
    simp only [jsonK, hk3]; exact ⟨rfl, rfl, by simp⟩
  · subst e2
    refine ⟨next_ok (c := c) _ _ (h2.1.less (by omega)), fun y3 e3 => ?_⟩
    have hi : (nextF (nextF x 6).2 4).1 = ((nextF (nextF x 6).2 4).1.toNat : Int) := by omega
    generalize hn : (nextF (nextF x 6).2 4).1.toNat = n at *
    refine ⟨trivial, fun hz => ?_, fun hz => ?_⟩
    · subst e3
      have hn0 : n = 0 := by
        rcases n with _ | n
        · rfl
        · exact absurd (List.isEmpty_iff.mp hz) (by unfold drawList; exact drawList_ne _ _ _ (by simp))
      subst hn0
      refine ⟨?_, ?_⟩
      · rw [hi]
        exact blk1 (list0_end (f := jsonF d) _ _)
      · have e : jsonK (jsonF d) (nextF x 6).1 (nextF x 6).2 = (.mk 4 0 [] [] [], (nextF (nextF x 6).2 4).2) := by
          simp only [jsonK, hk4, hn, drawList]; rfl
        rw [e]; exact ⟨rfl, rfl, by simp⟩
    · subst e3
      rcases n with _ | n
      · exact absurd hz (by simp [drawList])
      refine ⟨?_, ?_⟩
      · rw [hi]
        have := Nat.mul_le_mul_right (qF d) (show n + 1 ≤ 4 by omega)
        exact blk1 (list0_loop ih (by omega) n _ c (h7.1.less (by omega)) (by omega))
      · have e : jsonK (jsonF d) (nextF x 6).1 (nextF x 6).2 = (.mk 4 0 [] [] (drawList (jsonF d) (n + 1) (nextF (nextF x 6).2 4).2 []).1, (drawList (jsonF d) (n + 1) (nextF (nextF x 6).2 4).2 []).2) := by
          simp only [jsonK, hk4, hn]; rfl
        rw [e]; exact ⟨rfl, rfl, by simp⟩
  · subst e2
    have hk5 : jsonK (jsonF d) (nextF x 6).1 (nextF x 6).2 = (.mk 5 0 [] (drawObj (jsonF d) objKeys (nextF x 6).2 [] []).1 (drawObj (jsonF d) objKeys (nextF x 6).2 [] []).2.1, (drawObj (jsonF d) objKeys (nextF x 6).2 [] []).2.2) := by
      simp only [jsonK, hk, hk1, hk2, hk3, hk4, if_false]
    rw [hk5]
    have hl := blk3 (obj0_loop ih (by omega) objKeys 0 (nextF x 6).2 c rfl rfl (h2.1.less (by simp only [objKeys, List.length_cons, List.length_nil]; omega)))
    refine ⟨trivial, fun hz => ?_, fun hz => ?_⟩
    · have hz1 : (drawObj (jsonF d) objKeys (nextF x 6).2 [] []).1 = [] := List.isEmpty_iff.mp hz
      have hz2 : (drawObj (jsonF d) objKeys (nextF x 6).2 [] []).2.1 = [] := by
        have := drawObj_len (f := jsonF d) objKeys (nextF x 6).2 [] [] rfl
        rw [hz1] at this; exact List.length_eq_zero_iff.mp this.symm
      rw [hz1, hz2] at hl ⊢
      exact ⟨hl, ⟨rfl, rfl, by simp⟩⟩
    · have hz' : (drawObj (jsonF d) objKeys (nextF x 6).2 [] []).1 ≠ [] := fun e => by rw [show (drawObj (jsonF d) [[97], [98], [107], [122, 122]] (nextF x 6).2 [] []).1 = [] from e] at hz; cases hz
      rw [stO_ne _ _ _ _ _ hz'] at hl
      exact ⟨hl, ⟨rfl, rfl, by simp⟩⟩

theorem json_draw : ∀ (d : Nat), d ≤ 900 → Draw (jsonF d) d (qF d)
  | 0, _ => json_zero
  | d + 1, h => json_succ (by omega) (json_draw d (by omega))

end Go.Proofs.YtjgancippgpdhaaGreatDoor

namespace Go.Proofs.YtjgancippgpdhaaGreatDoor
open Go.RowKit
set_option maxRecDepth 100000

abbrev fDigits : Nat := 62
abbrev fQuote : Nat := 63

/-- Digits, k at most. -/
def dgs : Nat → Int → List UInt8
  | 0, _ => []
  | k + 1, n => if n < 10 then [UInt8.ofNat (48 + n).toNat] else dgs k (n.tdiv 10) ++ [UInt8.ofNat (48 + n.tmod 10).toNat]
def dg (n : Int) : List UInt8 := if n < 0 then 45 :: dgs 19 (-n) else dgs 19 n
noncomputable def resDg (g : Int → List UInt8) : ResT := fun f vs hp => match vs, hp with
  | [.int _ n], [] => bif Nat.beq f fDigits then some ⟨g n, fun y => ⟨.str y, [], []⟩⟩ else none
  | _, _ => none

set_option maxRecDepth 100000 in
theorem dgT (g : Int → List UInt8) (n : Int) : fnT { P := Tryz.prog, vw := vwA, res := resDg g } 0 fDigits [.int .i64 n] [] =
  bif n == (-9223372036854775808 : Int) then
    T.done
      (Ret.mk
        (V.str
          [(45 : UInt8), (57 : UInt8), (50 : UInt8), (50 : UInt8), (51 : UInt8), (51 : UInt8), (55 : UInt8), (50 : UInt8), (48 : UInt8), (51 : UInt8), (54 : UInt8), (56 : UInt8), (53 : UInt8), (52 : UInt8), (55 : UInt8),
            (55 : UInt8), (53 : UInt8), (56 : UInt8), (48 : UInt8), (56 : UInt8)])
        [] [])
  else
    bif decide (n < (0 : Int)) then
      T.bind (g (IntKind.wrap IntKind.i64 ((0 : Int) - n))) fun y0 =>
        T.need [FnOK (Env.P (Env.mk Tryz.prog vwA (resDg g) (fun _ _ => none) [] [] fun _ _ _ _ _ => none)) 62 [V.int IntKind.i64 (IntKind.wrap IntKind.i64 ((0 : Int) - n))] [] (Ret.mk (V.str y0) [] [])]
          (T.need [1 + List.length y0 ≤ 4611686018427387904] (T.done (Ret.mk (V.str ([(45 : UInt8)] ++ y0)) [] [])))
    else
      bif decide (n < (10 : Int)) then
        T.need
          [(0 : Int) ≤ IntKind.wrap IntKind.u8 (IntKind.wrap IntKind.i64 ((48 : Int) + n)) ∧ IntKind.wrap IntKind.u8 (IntKind.wrap IntKind.i64 ((48 : Int) + n)) < (256 : Int), 0 = 0, 1 = 1]
          (T.done (Ret.mk (V.str [UInt8.ofNat (Int.toNat (IntKind.wrap IntKind.u8 (IntKind.wrap IntKind.i64 ((48 : Int) + n))))]) [] []))
      else
        T.need [(10 : Int) ≠ (0 : Int)]
          (T.bind (g (IntKind.wrap IntKind.i64 (Int.tdiv n (10 : Int)))) fun y1 =>
            T.need
              [FnOK (Env.P (Env.mk Tryz.prog vwA (resDg g) (fun _ _ => none) [] [] fun _ _ _ _ _ => none)) 62 [V.int IntKind.i64 (IntKind.wrap IntKind.i64 (Int.tdiv n (10 : Int)))] []
                  (Ret.mk (V.str y1) [] [])]
              (T.need [(10 : Int) ≠ (0 : Int)]
                (T.need
                  [(0 : Int) ≤ IntKind.wrap IntKind.u8 (IntKind.wrap IntKind.i64 ((48 : Int) + Int.tmod n (10 : Int))) ∧
                      IntKind.wrap IntKind.u8 (IntKind.wrap IntKind.i64 ((48 : Int) + Int.tmod n (10 : Int))) < (256 : Int),
                    0 = 0, 1 = 1]
                  (T.need [List.length y1 + 1 ≤ 4611686018427387904]
                    (T.done (Ret.mk (V.str (y1 ++ [UInt8.ofNat (Int.toNat (IntKind.wrap IntKind.u8 (IntKind.wrap IntKind.i64 ((48 : Int) + Int.tmod n (10 : Int)))))])) [] [])))))) := by kernel_rfl

theorem dgs_len : ∀ (k : Nat) (n : Int), (dgs k n).length ≤ k
  | 0, _ => by simp [dgs]
  | k + 1, n => by
    unfold dgs
    split
    · simp
    · have := dgs_len k (n.tdiv 10)
      simp; omega
theorem dgs_ok : ∀ (k : Nat) (n : Int), k ≤ 100 → 0 ≤ n → n ≤ 9223372036854775807 → n < 10 ^ (k + 1) → FnOK Tryz.prog fDigits [.int .i64 n] [] ⟨.str (dgs (k + 1) n), [], []⟩
  | k0, n, hk, h0, h1, h2 => by
    obtain ⟨k, ek⟩ : ∃ k, k0 = k := ⟨_, rfl⟩
    rw [ek] at hk h2 ⊢
    refine fnOK_TL (E := { P := Tryz.prog, vw := vwA, res := resDg (dgs k) }) follows named (dgT (dgs k) n) (by simp) ?_
    simp only [WP_cond, T.WP, All, decide_eq_true_eq, decide_eq_false_iff_not, and_true, beq_iff_eq, beq_eq_false_iff_ne, ne_eq]
    refine ⟨fun h => by omega, fun _ => ⟨fun h => by omega, fun _ => ⟨fun h => ?_, fun h => ?_⟩⟩⟩
    · rw [wrap_id (by omega), IntWalk.u8_in _ (by omega)]
      refine ⟨by omega, ?_⟩
      simp only [dgs, h, if_true]; exact ⟨rfl, rfl, by simp⟩
    · have q := Int.tdiv_eq_ediv_of_nonneg (b := 10) h0
      have r := Int.tmod_eq_emod_of_nonneg (b := 10) h0
      rw [wrap_id (n := n.tdiv 10) (by omega), wrap_id (n := 48 + n.tmod 10) (by omega), IntWalk.u8_in _ (by omega)]
      refine ⟨by omega, fun y e => ?_⟩
      subst e
      rcases k with _ | k
      · simp at h2; omega
      have hl := dgs_len (k + 1) (n.tdiv 10)
      refine ⟨dgs_ok k _ (by omega) (by omega) (by omega) ?_, by omega, by omega, by omega, ?_⟩
      · rw [Int.pow_succ] at h2; omega
      · have e : dgs (k + 1 + 1) n = dgs (k + 1) (n.tdiv 10) ++ [UInt8.ofNat (48 + n.tmod 10).toNat] := by
          rw [dgs, if_neg h]
        rw [e]; exact ⟨rfl, rfl, by simp⟩
termination_by k => k
decreasing_by omega

theorem dg_ok (n : Int) (h : -9223372036854775808 < n ∧ n ≤ 9223372036854775807) : FnOK Tryz.prog fDigits [.int .i64 n] [] ⟨.str (dg n), [], []⟩ := by
  by_cases hn : n < 0
  · refine fnOK_TL (E := { P := Tryz.prog, vw := vwA, res := resDg (dgs 19) }) follows named (dgT (dgs 19) n) (by simp) ?_
    simp only [WP_cond, T.WP, All, decide_eq_true_eq, decide_eq_false_iff_not, and_true, beq_iff_eq, beq_eq_false_iff_ne, ne_eq]
    refine ⟨fun h => by omega, fun _ => ⟨fun _ y e => ?_, fun h => by omega⟩⟩
    rw [wrap_id (by omega), show 0 - n = -n by omega] at e ⊢
    subst e
    have hl := dgs_len 19 (-n)
    refine ⟨dgs_ok 18 _ (by omega) (by omega) (by omega) (by omega), by omega, ?_⟩
    simp only [dg, hn, if_true]; exact ⟨rfl, rfl, by simp⟩
  · have := dgs_ok 18 n (by omega) (by omega) (by omega) (by omega)
    simp only [dg, hn, if_false]; exact this
theorem dg_len (n : Int) : (dg n).length ≤ 20 := by
  unfold dg
  split
  · have := dgs_len 19 (-n); simp; omega
  · have := dgs_len 19 n; omega

/-- A text's bytes, with what is set ahead of some of them. -/
def escB (c : UInt8) : List UInt8 := if c = 34 then [92, c] else if c = 92 then [92, c] else [c]
def escL (t : List UInt8) : List UInt8 := t.flatMap escB
def quo (t : List UInt8) : List UInt8 := 34 :: (escL t ++ [34])
def bytB (l : List UInt8) : Option Blk := some ([.sld (encs encByte l)], 5)
def stQ (t : List UInt8) (out : List UInt8) (i : Nat) (b : Bool) : St := ⟨mkTm 35 [(0, .str t), (3, .sl 0 0 out.length b), (4, .int .i64 i)], [bytB out], []⟩
def nfQ : Ex → Kp := fun _ => { keep := [0, 3, 4] }

--FOLD bytB
set_option maxRecDepth 100000 in
theorem quoT (t : List UInt8) (out : List UInt8) (i : Nat) (b : Bool) : bodyT E0 0 nfQ (lp Tryz.prog fQuote 0) (stQ t out i b) =
  bif decide ((↑i : Int) < (↑(List.length t) : Int)) then
    T.need [(0 : Int) ≤ (↑i : Int) ∧ (↑i : Int) < (↑(List.length t) : Int)]
      (bif (↑(UInt8.toNat (List.getD t (Int.toNat (↑i : Int)) (0 : UInt8))) : Int) == (34 : Int) then
        T.need
          [0 = 0, List.length (encs encByte out) = List.length out * 1, List.length out + 1 ≤ 9223372036854775807,
            (List.length out + 1) * 1 ≤ 140737488355328]
          (T.need [(0 : Int) ≤ (↑i : Int) ∧ (↑i : Int) < (↑(List.length t) : Int)]
            (T.need
              [0 = 0, List.length (encs encByte out ++ [V.int IntKind.u8 (92 : Int)]) = (List.length out + 1) * 1, List.length out + 1 + 1 ≤ 9223372036854775807,
                (List.length out + 1 + 1) * 1 ≤ 140737488355328]
              (T.done
                (Ex.normal,
                  St.mk
                    (mkTm 35
                      [(0, V.str t), (3, V.sl 0 0 (List.length out + 1 + 1) false), (4, V.int IntKind.i64 (IntKind.wrap IntKind.i64 ((↑i : Int) + (1 : Int))))])
                    [some ([V.sld (encs encByte out ++ [V.int IntKind.u8 (92 : Int), V.int IntKind.u8 (↑(UInt8.toNat (List.getD t (Int.toNat (↑i : Int)) (0 : UInt8))) : Int)])], 5)] []))))
      else
        T.need [(0 : Int) ≤ (↑i : Int) ∧ (↑i : Int) < (↑(List.length t) : Int)]
          (bif (↑(UInt8.toNat (List.getD t (Int.toNat (↑i : Int)) (0 : UInt8))) : Int) == (92 : Int) then
            T.need
              [0 = 0, List.length (encs encByte out) = List.length out * 1, List.length out + 1 ≤ 9223372036854775807,
                (List.length out + 1) * 1 ≤ 140737488355328]
              (T.need [(0 : Int) ≤ (↑i : Int) ∧ (↑i : Int) < (↑(List.length t) : Int)]
                (T.need
                  [0 = 0, List.length (encs encByte out ++ [V.int IntKind.u8 (92 : Int)]) = (List.length out + 1) * 1, List.length out + 1 + 1 ≤ 9223372036854775807,
                    (List.length out + 1 + 1) * 1 ≤ 140737488355328]
                  (T.done
                    (Ex.normal,
                      St.mk
                        (mkTm 35
                          [(0, V.str t), (3, V.sl 0 0 (List.length out + 1 + 1) false), (4, V.int IntKind.i64 (IntKind.wrap IntKind.i64 ((↑i : Int) + (1 : Int))))])
                        [some ([V.sld (encs encByte out ++ [V.int IntKind.u8 (92 : Int), V.int IntKind.u8 (↑(UInt8.toNat (List.getD t (Int.toNat (↑i : Int)) (0 : UInt8))) : Int)])], 5)] []))))
          else
            T.need [(0 : Int) ≤ (↑i : Int) ∧ (↑i : Int) < (↑(List.length t) : Int)]
              (T.need
                [0 = 0, List.length (encs encByte out) = List.length out * 1, List.length out + 1 ≤ 9223372036854775807,
                  (List.length out + 1) * 1 ≤ 140737488355328]
                (T.done
                  (Ex.normal,
                    St.mk
                      (mkTm 35 [(0, V.str t), (3, V.sl 0 0 (List.length out + 1) false), (4, V.int IntKind.i64 (IntKind.wrap IntKind.i64 ((↑i : Int) + (1 : Int))))])
                      [some ([V.sld (encs encByte out ++ [V.int IntKind.u8 (↑(UInt8.toNat (List.getD t (Int.toNat (↑i : Int)) (0 : UInt8))) : Int)])], 5)] [])))))
  else T.done (Ex.exit 0, St.mk (mkTm 35 [(0, V.str t), (3, V.sl 0 0 (List.length out) b), (4, V.int IntKind.i64 (↑i : Int))]) [bytB out] []) := by kernel_rfl

theorem escL_cons (c : UInt8) (t : List UInt8) : escL (c :: t) = escB c ++ escL t := by simp [escL]
theorem quo_loop (t : List UInt8) (ht : t.length ≤ 1048576) : ∀ (m : Nat) (out : List UInt8) (i : Nat) (b : Bool), i + m = t.length → out.length + 2 * m ≤ 4194304 → LoopTo Tryz.prog 0 (lp Tryz.prog fQuote 0) (stQ t out i b) (.exit 0) (stQ t (out ++ escL (t.drop i)) t.length (b && i == t.length))
  | 0, out, i, b, h1, h2 => by
    refine loopT (E := E0) follows named (quoT t out i b) ?_
    simp only [WP_cond, T.WP, All, decide_eq_true_eq, decide_eq_false_iff_not, and_true, beq_iff_eq, beq_eq_false_iff_ne, ne_eq]
    obtain rfl : i = t.length := h1
    refine ⟨fun h => by omega, fun _ => ⟨rfl, ?_⟩⟩
    rw [List.drop_length]; simp [stQ, escL, bytB]
  | m + 1, out, i, b, h1, h2 => by
    refine loopT (E := E0) follows named (quoT t out i b) ?_
    rw [show (b && i == t.length) = false by rw [beq_eq_false_iff_ne.2 (by omega)]; simp]
    have hd : t.drop i = t.getD i 0 :: t.drop (i + 1) := by
      rw [List.drop_eq_getElem_cons (by omega), List.getD_eq_getElem?_getD, List.getElem?_eq_getElem (by omega)]; rfl
    simp only [WP_cond, T.WP, All, decide_eq_true_eq, decide_eq_false_iff_not, and_true, beq_iff_eq, beq_eq_false_iff_ne, ne_eq, Int.toNat_natCast, hd, escL_cons]
    refine ⟨fun hi => ⟨by omega, ?_⟩, fun h => by omega⟩
    generalize hc : t.getD i 0 = c
    have hq : (c.toNat : Int) = 34 ↔ c = 34 := by
      constructor
      · intro h; exact UInt8.toNat_inj.1 (by rw [show (34 : UInt8).toNat = 34 from rfl]; omega)
      · rintro rfl; rfl
    have hs : (c.toNat : Int) = 92 ↔ c = 92 := by
      constructor
      · intro h; exact UInt8.toNat_inj.1 (by rw [show (92 : UInt8).toNat = 92 from rfl]; omega)
      · rintro rfl; rfl
    simp only [hq, hs, wrap_succ (show i < 9223372036854775807 by omega)]
    have ih := quo_loop t ht m (out ++ escB c) (i + 1) false (by omega)
    have hesc : escB c = if c = 34 then [92, c] else if c = 92 then [92, c] else [c] := rfl
    have hl := layByte.length out
    have hl1 : (out ++ [92, c]).length = out.length + 1 + 1 := by simp
    have hl2 : (out ++ [c]).length = out.length + 1 := by simp
    have he1 : encs encByte (out ++ [92, c]) = encs encByte out ++ [V.int IntKind.u8 92, V.int IntKind.u8 (c.toNat : Int)] := by rw [encs_append]; rfl
    have he2 : encs encByte (out ++ [c]) = encs encByte out ++ [V.int IntKind.u8 (c.toNat : Int)] := by rw [encs_append]; rfl
    by_cases e1 : c = 34
    · rw [hesc, if_pos e1] at ih ⊢
      simp only [stQ, bytB, hl1, he1, List.append_assoc, Bool.false_and] at ih
      simp only [eq_true e1, true_implies, not_true_eq_false, false_implies, and_true, true_and]
      refine ⟨⟨by omega, by omega, by omega⟩, ⟨by omega, by omega⟩, ⟨by simp; omega, by omega, by omega⟩, ?_⟩
      exact ih (by omega)
    · by_cases e2 : c = 92
      · rw [hesc, if_neg e1, if_pos e2] at ih ⊢
        simp only [stQ, bytB, hl1, he1, List.append_assoc, Bool.false_and] at ih
        simp only [eq_true e2, eq_false e1, true_implies, not_true_eq_false, not_false_eq_true, false_implies, and_true, true_and]
        refine ⟨by omega, ⟨by omega, by omega, by omega⟩, ⟨by omega, by omega⟩, ⟨by simp; omega, by omega, by omega⟩, ?_⟩
        exact ih (by omega)
      · rw [hesc, if_neg e1, if_neg e2] at ih ⊢
        simp only [stQ, bytB, hl2, he2, List.append_assoc, Bool.false_and] at ih
        simp only [eq_false e2, eq_false e1, true_implies, not_false_eq_true, false_implies, true_and]
        refine ⟨by omega, ⟨by omega, by omega⟩, ⟨by omega, by omega, by omega⟩, ?_⟩
        exact ih (by omega)

noncomputable def lsQuo : Nat → St → Option LRes := fun id s => match id, s.tm.get 0 with
  | 0, .str t => some ⟨([34] ++ escL t, 0 == t.length), fun y => .one { keep := [0, 3, 4] } (stQ t [34] 0 true) (.exit 0) (stQ t y.1 t.length y.2)⟩
  | _, _ => none

set_option maxRecDepth 100000 in
theorem quoteT (t : List UInt8) : fnT { P := Tryz.prog, vw := vwA, res := res0, ls := lsQuo } 0 fQuote [.str t] [] =
  T.bind ([(34 : UInt8)] ++ escL t, 0 == List.length t) fun y0 =>
    T.need
      [St.mk (mkTm 35 [(0, V.str t), (3, V.sl 0 0 1 true), (4, V.int IntKind.i64 (0 : Int))]) [some ([V.sld [V.int IntKind.u8 (34 : Int)]], 5)] [] =
          St.mk (mkTm 35 [(0, V.str t), (3, V.sl 0 0 1 true), (4, V.int IntKind.i64 (0 : Int))]) [some ([V.sld [V.int IntKind.u8 (34 : Int)]], 5)] [],
        SoundC (Env.P (Env.mk Tryz.prog vwA res0 lsQuo [] [] fun _ _ _ _ _ => none)) 0 (blk Tryz.prog fQuote 0)
          (St.mk (mkTm 35 [(0, V.str t), (3, V.sl 0 0 1 true), (4, V.int IntKind.i64 (0 : Int))]) [some ([V.sld [V.int IntKind.u8 (34 : Int)]], 5)] [])
          (Ex.exit 0)
          (St.mk (mkTm 35 [(0, V.str t), (3, V.sl 0 0 (List.length (Prod.fst y0)) (Prod.snd y0)), (4, V.int IntKind.i64 (↑(List.length t) : Int))]) [bytB (Prod.fst y0)] [])]
      (T.need
        [0 = 0, List.length (encs encByte (Prod.fst y0)) = List.length (Prod.fst y0) * 1, List.length (Prod.fst y0) + 1 ≤ 9223372036854775807,
          (List.length (Prod.fst y0) + 1) * 1 ≤ 140737488355328]
        (T.need
          [encs encByte (Prod.fst y0) = byts (decL encByte (encs encByte (Prod.fst y0))), (0 : Int) ≤ (34 : Int) ∧ (34 : Int) < (256 : Int), 0 = 0,
            List.length (decL encByte (encs encByte (Prod.fst y0)) ++ [(34 : UInt8)]) = List.length (Prod.fst y0) + 1]
          (T.done (Ret.mk (V.str (decL encByte (encs encByte (Prod.fst y0)) ++ [(34 : UInt8)])) [] [])))) := (T.force_eq _).symm.trans (by kernel_rfl)

theorem escL_len (t : List UInt8) : (escL t).length ≤ 2 * t.length := by
  induction t with
  | nil => simp [escL]
  | cons c t ih =>
    rw [escL_cons]
    have : (escB c).length ≤ 2 := by
      unfold escB; split
      · simp
      · split <;> simp
    rw [List.length_append, List.length_cons]; omega
theorem quo_len (t : List UInt8) : (quo t).length ≤ 2 * t.length + 2 := by
  have := escL_len t
  simp [quo]; omega
theorem quote_ok (t : List UInt8) (ht : t.length ≤ 1048576) : FnOK Tryz.prog fQuote [.str t] [] ⟨.str (quo t), [], []⟩ := by
  refine fnOK_TL (E := { P := Tryz.prog, vw := vwA, res := res0, ls := lsQuo }) follows named (quoteT t) (by simp) ?_
  simp only [T.WP, All, and_true]
  rintro y rfl
  have h0 := quo_loop t ht t.length [34] 0 true (by omega) (by simp; omega)
  rw [List.drop_zero] at h0
  have hl := escL_len t
  rw [layByte.decL, byts_encs, layByte.length]
  refine ⟨⟨trivial, .loopTo h0⟩, ⟨trivial, rfl, ?_, ?_⟩, ⟨rfl, by omega, trivial, by simp⟩, ⟨rfl, rfl, by simp⟩⟩
  · simp only [List.length_append, List.length_cons, List.length_nil]; omega
  · simp only [List.length_append, List.length_cons, List.length_nil]; omega

end Go.Proofs.YtjgancippgpdhaaGreatDoor

namespace Go.Proofs.YtjgancippgpdhaaGreatDoor
open Go.RowKit
set_option maxRecDepth 100000

abbrev fPrint : Nat := 41

mutual
def pj : J → List UInt8
  | .mk k n t ks its => if k = 0 then [110, 117, 108, 108] else if k = 1 then [[102, 97, 108, 115, 101], [116, 114, 117, 101]].getD n.toNat [] else if k = 2 then dg n else if k = 3 then quo t
    else (if k = 5 then [123] else [91]) ++ pjs (k == 5) true ks its ++ (if k = 5 then [125] else [93])
def pjs : Bool → Bool → List (List UInt8) → List J → List UInt8
  | _, _, _, [] => []
  | o, a, ks, j :: js => (if a then [] else [44]) ++ (if o then quo (ks.headD []) ++ [58] else []) ++ pj j ++ pjs o false ks.tail js
end
mutual
def WJ : J → Prop
  | .mk k n t ks its => (0 ≤ k ∧ k ≤ 5) ∧ (k = 1 → 0 ≤ n ∧ n < 2) ∧ (-9223372036854775808 < n ∧ n ≤ 9223372036854775807) ∧ t.length ≤ 1048576 ∧ (k = 5 → its.length ≤ ks.length) ∧ (∀ s ∈ ks, s.length ≤ 1048576) ∧ its.length ≤ 1048576 ∧ ks.length ≤ 1048576 ∧ WJs its
def WJs : List J → Prop
  | [] => True
  | j :: js => (pj j).length ≤ 1073741824 ∧ WJ j ∧ WJs js
end

noncomputable def resPrint : ResT := fun f vs hp => match vs, hp with
  | [.agg [.int _ k, .int _ n, .str t, .dsl _ _ ks, .dsl _ _ its]], [] => bif Nat.beq f fPrint then some ⟨pj (jOf k n t ks its), fun y => ⟨.str y, [], []⟩⟩ else none
  | _, _ => none
noncomputable def resQuo : ResT := fun f vs hp => match vs, hp with
  | [.str t], [] => bif Nat.beq f fQuote then some ⟨quo t, fun y => ⟨.str y, [], []⟩⟩ else none
  | _, _ => none
noncomputable def EP : Env := { P := Tryz.prog, vw := vwA, res := (resQuo.or resPrint).or (resDg dg) }

def stP (j : J) (ends out : List UInt8) (i : Int) : St := ⟨mkTm 67 [(1, .ptr 0 0), (3, .str ends), (4, .str out), (5, .int .i64 i)], [some (vwJ j, tJ)], []⟩
def nfP : Ex → Kp := fun _ => { keep := [1, 3, 4, 5] }

--FOLD vwJ
set_option maxRecDepth 100000 in
theorem prT (j : J) (ends out : List UInt8) (i : Int) : bodyT EP 0 nfP (lp Tryz.prog fPrint 1) (stP j ends out i) =
  bif decide (i < (↑(List.length (J.items j)) : Int)) then
    bif decide (i > (0 : Int)) then
      T.need [List.length out + 1 ≤ 4611686018427387904]
        (bif J.kind j == (5 : Int) then
          T.need
            [(0 : Int) ≤ i ∧ i < (↑(List.length (J.keys j)) : Int),
              List.take 1 (List.drop (Int.toNat i * 1) (encs encStr (J.keys j))) = [V.str (List.getD (decL encStr (encs encStr (J.keys j))) (Int.toNat i) [])]]
            (T.bind (quo (List.getD (decL encStr (encs encStr (J.keys j))) (Int.toNat i) [])) fun y0 =>
              T.need [FnOK (Env.P EP) 63 [V.str (List.getD (decL encStr (encs encStr (J.keys j))) (Int.toNat i) [])] [] (Ret.mk (V.str y0) [] [])]
                (T.need [List.length y0 + 1 ≤ 4611686018427387904]
                  (T.need [List.length (out ++ [(44 : UInt8)]) + List.length (y0 ++ [(58 : UInt8)]) ≤ 4611686018427387904]
                    (T.need
                      [(0 : Int) ≤ i ∧ i < (↑(List.length (J.items j)) : Int),
                        List.take 5 (List.drop (Int.toNat i * 5) (encs encJ (J.items j))) = vwJ (List.getD (decL encJ (encs encJ (J.items j))) (Int.toNat i) (J.mk (0 : Int) (0 : Int) [] [] []))]
                      (T.bind
                        (pj
                          (jOf (J.kind (List.getD (decL encJ (encs encJ (J.items j))) (Int.toNat i) (J.mk (0 : Int) (0 : Int) [] [] [])))
                            (J.n (List.getD (decL encJ (encs encJ (J.items j))) (Int.toNat i) (J.mk (0 : Int) (0 : Int) [] [] [])))
                            (J.t (List.getD (decL encJ (encs encJ (J.items j))) (Int.toNat i) (J.mk (0 : Int) (0 : Int) [] [] [])))
                            (encs encStr (J.keys (List.getD (decL encJ (encs encJ (J.items j))) (Int.toNat i) (J.mk (0 : Int) (0 : Int) [] [] []))))
                            (encs encJ (J.items (List.getD (decL encJ (encs encJ (J.items j))) (Int.toNat i) (J.mk (0 : Int) (0 : Int) [] [] []))))))
                        fun y1 =>
                        T.need [FnOK (Env.P EP) 41 [V.agg (vwJ (List.getD (decL encJ (encs encJ (J.items j))) (Int.toNat i) (J.mk (0 : Int) (0 : Int) [] [] [])))] [] (Ret.mk (V.str y1) [] [])]
                          (T.need [List.length (out ++ [(44 : UInt8)] ++ (y0 ++ [(58 : UInt8)])) + List.length y1 ≤ 4611686018427387904]
                            (T.done
                              (Ex.normal,
                                St.mk
                                  (mkTm 67
                                    [(1, V.ptr 0 0), (3, V.str ends), (4, V.str (out ++ [(44 : UInt8)] ++ (y0 ++ [(58 : UInt8)]) ++ y1)),
                                      (5, V.int IntKind.i64 (IntKind.wrap IntKind.i64 (i + (1 : Int))))])
                                  [some (vwJ j, 28)] []))))))))
        else
          T.need
            [(0 : Int) ≤ i ∧ i < (↑(List.length (J.items j)) : Int),
              List.take 5 (List.drop (Int.toNat i * 5) (encs encJ (J.items j))) = vwJ (List.getD (decL encJ (encs encJ (J.items j))) (Int.toNat i) (J.mk (0 : Int) (0 : Int) [] [] []))]
            (T.bind
              (pj
                (jOf (J.kind (List.getD (decL encJ (encs encJ (J.items j))) (Int.toNat i) (J.mk (0 : Int) (0 : Int) [] [] [])))
                  (J.n (List.getD (decL encJ (encs encJ (J.items j))) (Int.toNat i) (J.mk (0 : Int) (0 : Int) [] [] [])))
                  (J.t (List.getD (decL encJ (encs encJ (J.items j))) (Int.toNat i) (J.mk (0 : Int) (0 : Int) [] [] [])))
                  (encs encStr (J.keys (List.getD (decL encJ (encs encJ (J.items j))) (Int.toNat i) (J.mk (0 : Int) (0 : Int) [] [] []))))
                  (encs encJ (J.items (List.getD (decL encJ (encs encJ (J.items j))) (Int.toNat i) (J.mk (0 : Int) (0 : Int) [] [] []))))))
              fun y2 =>
              T.need [FnOK (Env.P EP) 41 [V.agg (vwJ (List.getD (decL encJ (encs encJ (J.items j))) (Int.toNat i) (J.mk (0 : Int) (0 : Int) [] [] [])))] [] (Ret.mk (V.str y2) [] [])]
                (T.need [List.length (out ++ [(44 : UInt8)]) + List.length y2 ≤ 4611686018427387904]
                  (T.done
                    (Ex.normal,
                      St.mk
                        (mkTm 67
                          [(1, V.ptr 0 0), (3, V.str ends), (4, V.str (out ++ [(44 : UInt8)] ++ y2)), (5, V.int IntKind.i64 (IntKind.wrap IntKind.i64 (i + (1 : Int))))])
                        [some (vwJ j, 28)] [])))))
    else
      bif J.kind j == (5 : Int) then
        T.need
          [(0 : Int) ≤ i ∧ i < (↑(List.length (J.keys j)) : Int),
            List.take 1 (List.drop (Int.toNat i * 1) (encs encStr (J.keys j))) = [V.str (List.getD (decL encStr (encs encStr (J.keys j))) (Int.toNat i) [])]]
          (T.bind (quo (List.getD (decL encStr (encs encStr (J.keys j))) (Int.toNat i) [])) fun y3 =>
            T.need [FnOK (Env.P EP) 63 [V.str (List.getD (decL encStr (encs encStr (J.keys j))) (Int.toNat i) [])] [] (Ret.mk (V.str y3) [] [])]
              (T.need [List.length y3 + 1 ≤ 4611686018427387904]
                (T.need [List.length out + List.length (y3 ++ [(58 : UInt8)]) ≤ 4611686018427387904]
                  (T.need
                    [(0 : Int) ≤ i ∧ i < (↑(List.length (J.items j)) : Int),
                      List.take 5 (List.drop (Int.toNat i * 5) (encs encJ (J.items j))) = vwJ (List.getD (decL encJ (encs encJ (J.items j))) (Int.toNat i) (J.mk (0 : Int) (0 : Int) [] [] []))]
                    (T.bind
                      (pj
                        (jOf (J.kind (List.getD (decL encJ (encs encJ (J.items j))) (Int.toNat i) (J.mk (0 : Int) (0 : Int) [] [] [])))
                          (J.n (List.getD (decL encJ (encs encJ (J.items j))) (Int.toNat i) (J.mk (0 : Int) (0 : Int) [] [] [])))
                          (J.t (List.getD (decL encJ (encs encJ (J.items j))) (Int.toNat i) (J.mk (0 : Int) (0 : Int) [] [] [])))
                          (encs encStr (J.keys (List.getD (decL encJ (encs encJ (J.items j))) (Int.toNat i) (J.mk (0 : Int) (0 : Int) [] [] []))))
                          (encs encJ (J.items (List.getD (decL encJ (encs encJ (J.items j))) (Int.toNat i) (J.mk (0 : Int) (0 : Int) [] [] []))))))
                      fun y4 =>
                      T.need [FnOK (Env.P EP) 41 [V.agg (vwJ (List.getD (decL encJ (encs encJ (J.items j))) (Int.toNat i) (J.mk (0 : Int) (0 : Int) [] [] [])))] [] (Ret.mk (V.str y4) [] [])]
                        (T.need [List.length (out ++ (y3 ++ [(58 : UInt8)])) + List.length y4 ≤ 4611686018427387904]
                          (T.done
                            (Ex.normal,
                              St.mk
                                (mkTm 67
                                  [(1, V.ptr 0 0), (3, V.str ends), (4, V.str (out ++ (y3 ++ [(58 : UInt8)]) ++ y4)),
                                    (5, V.int IntKind.i64 (IntKind.wrap IntKind.i64 (i + (1 : Int))))])
                                [some (vwJ j, 28)] []))))))))
      else
        T.need
          [(0 : Int) ≤ i ∧ i < (↑(List.length (J.items j)) : Int),
            List.take 5 (List.drop (Int.toNat i * 5) (encs encJ (J.items j))) = vwJ (List.getD (decL encJ (encs encJ (J.items j))) (Int.toNat i) (J.mk (0 : Int) (0 : Int) [] [] []))]
          (T.bind
            (pj
              (jOf (J.kind (List.getD (decL encJ (encs encJ (J.items j))) (Int.toNat i) (J.mk (0 : Int) (0 : Int) [] [] [])))
                (J.n (List.getD (decL encJ (encs encJ (J.items j))) (Int.toNat i) (J.mk (0 : Int) (0 : Int) [] [] [])))
                (J.t (List.getD (decL encJ (encs encJ (J.items j))) (Int.toNat i) (J.mk (0 : Int) (0 : Int) [] [] [])))
                (encs encStr (J.keys (List.getD (decL encJ (encs encJ (J.items j))) (Int.toNat i) (J.mk (0 : Int) (0 : Int) [] [] []))))
                (encs encJ (J.items (List.getD (decL encJ (encs encJ (J.items j))) (Int.toNat i) (J.mk (0 : Int) (0 : Int) [] [] []))))))
            fun y5 =>
            T.need [FnOK (Env.P EP) 41 [V.agg (vwJ (List.getD (decL encJ (encs encJ (J.items j))) (Int.toNat i) (J.mk (0 : Int) (0 : Int) [] [] [])))] [] (Ret.mk (V.str y5) [] [])]
              (T.need [List.length out + List.length y5 ≤ 4611686018427387904]
                (T.done
                  (Ex.normal,
                    St.mk (mkTm 67 [(1, V.ptr 0 0), (3, V.str ends), (4, V.str (out ++ y5)), (5, V.int IntKind.i64 (IntKind.wrap IntKind.i64 (i + (1 : Int))))])
                      [some (vwJ j, 28)] []))))
  else T.done (Ex.exit 1, St.mk (mkTm 67 [(1, V.ptr 0 0), (3, V.str ends), (4, V.str out), (5, V.int IntKind.i64 i)]) [some (vwJ j, 28)] []) := by kernel_rfl

theorem jOf_eta (x : J) : jOf x.kind x.n x.t (encs encStr x.keys) (encs encJ x.items) = x := jOf_vw x
theorem pjs_step (o : Bool) (i : Nat) (ks : List (List UInt8)) (its : List J) (h : i < its.length) : pjs o (i == 0) (ks.drop i) (its.drop i) =
    (if i = 0 then [] else [44]) ++ (if o then quo (ks.getD i []) ++ [58] else []) ++ pj (its.getD i J.zero) ++ pjs o (i + 1 == 0) (ks.drop (i + 1)) (its.drop (i + 1)) := by
  rw [List.drop_eq_getElem_cons h, pjs]
  have e1 : (ks.drop i).headD [] = ks.getD i [] := by
    rw [List.headD_eq_head?_getD, List.head?_drop, List.getD_eq_getElem?_getD]
  have e2 : its[i] = its.getD i J.zero := by rw [List.getD_eq_getElem?_getD, List.getElem?_eq_getElem h]; rfl
  rw [e1, e2, List.tail_drop]
  have e3 : (i + 1 == 0) = false := rfl
  rw [e3]
  by_cases hi : i = 0
  · subst hi; rfl
  · rw [if_neg hi, if_neg (by simpa using hi)]

/-- What the loop asks of the value. -/
structure PrOK (j : J) : Prop where
  items : ∀ x ∈ j.items, FnOK Tryz.prog fPrint [.agg (vwJ x)] [] ⟨.str (pj x), [], []⟩ ∧ (pj x).length ≤ 1073741824
  keys : ∀ s ∈ j.keys, s.length ≤ 1048576
  len : j.items.length ≤ 1048576
  obj : j.kind = 5 → j.items.length ≤ j.keys.length

theorem pr_loop (j : J) (hj : PrOK j) (ends : List UInt8) : ∀ (m : Nat) (out : List UInt8) (i : Nat), i + m = j.items.length → out.length ≤ (i + 1) * 4294967296 →
    LoopTo Tryz.prog 0 (lp Tryz.prog fPrint 1) (stP j ends out i) (.exit 1) (stP j ends (out ++ pjs (j.kind == 5) (i == 0) (j.keys.drop i) (j.items.drop i)) j.items.length)
  | 0, out, i, h1, h2 => by
    refine loopT (E := EP) follows named (prT j ends out i) ?_
    obtain rfl : i = j.items.length := h1
    simp only [WP_cond, T.WP, All, decide_eq_true_eq, decide_eq_false_iff_not, and_true, beq_iff_eq, beq_eq_false_iff_ne, ne_eq]
    refine ⟨fun h => by omega, fun _ => ⟨rfl, ?_⟩⟩
    rw [List.drop_length]; simp [stP, pjs]
  | m + 1, out, i, h1, h2 => by
    refine loopT (E := EP) follows named (prT j ends out i) ?_
    have hi : i < j.items.length := by omega
    have hl := hj.len
    rw [pjs_step _ _ _ _ hi]
    have hx := hj.items (j.items.getD i J.zero) (by rw [List.getD_eq_getElem?_getD, List.getElem?_eq_getElem hi]; exact List.getElem_mem hi)
    have ih := pr_loop j hj ends m (out ++ ((if i = 0 then [] else [44]) ++ (if j.kind == 5 then quo (j.keys.getD i []) ++ [58] else []) ++ pj (j.items.getD i J.zero))) (i + 1) (by omega)
    have hat := layJ.at j.items J.zero i 5 hi rfl
    rw [encJ_vw] at hat
    have hq : j.kind = 5 → i < j.keys.length ∧ (j.keys.getD i []).length ≤ 1048576 ∧ ((encs encStr j.keys).drop (i * 1)).take 1 = encStr (j.keys.getD i []) := by
      intro hk
      have h3 := hj.obj hk
      refine ⟨by omega, ?_, layStr.at j.keys [] i 1 (by omega) rfl⟩
      rw [List.getD_eq_getElem?_getD, List.getElem?_eq_getElem (by omega)]
      exact hj.keys _ (List.getElem_mem _)
    simp only [WP_cond, T.WP, All, decide_eq_true_eq, decide_eq_false_iff_not, and_true, beq_iff_eq, beq_eq_false_iff_ne, ne_eq, layJ.decL, layStr.decL, Int.toNat_natCast, jOf_eta, show (J.mk 0 0 [] [] [] : J) = J.zero from rfl, wrap_succ (show i < 9223372036854775807 by omega)]
    simp only [beq_iff_eq] at ih
    generalize j.items.getD i J.zero = x at *
    generalize j.keys.getD i [] = q at *
    obtain ⟨hx1, hx2⟩ := hx
    have hm : i * 4294967296 ≤ 1048576 * 4294967296 := Nat.mul_le_mul_right _ (by omega)
    have hql := quo_len q
    refine ⟨fun _ => ⟨fun hi0 => ⟨by omega, fun hk => ?_, fun hk => ?_⟩, fun hi0 => ⟨fun hk => ?_, fun hk => ?_⟩⟩, fun h => by omega⟩
    · obtain ⟨q1, q2, q3⟩ := hq hk
      refine ⟨⟨by omega, q3⟩, ?_⟩
      rintro y rfl
      simp only [hk, if_true, if_neg (show ¬ i = 0 by omega), List.length_append, List.length_cons, List.length_nil, List.append_assoc] at ih ⊢
      refine ⟨quote_ok q q2, by omega, by omega, ⟨by omega, hat⟩, ?_⟩
      rintro y rfl
      exact ⟨hx1, by omega, ih (by omega)⟩
    · refine ⟨⟨by omega, hat⟩, ?_⟩
      rintro y rfl
      simp only [hk, if_false, if_neg (show ¬ i = 0 by omega), List.length_append, List.length_cons, List.length_nil, List.append_assoc] at ih ⊢
      exact ⟨hx1, by omega, ih (by omega)⟩
    · obtain ⟨q1, q2, q3⟩ := hq hk
      refine ⟨⟨by omega, q3⟩, ?_⟩
      rintro y rfl
      simp only [hk, if_true, if_pos (show i = 0 by omega), List.length_append, List.length_cons, List.length_nil, List.append_assoc] at ih ⊢
      refine ⟨quote_ok q q2, by omega, by omega, ⟨by omega, hat⟩, ?_⟩
      rintro y rfl
      exact ⟨hx1, by omega, ih (by omega)⟩
    · refine ⟨⟨by omega, hat⟩, ?_⟩
      rintro y rfl
      simp only [hk, if_false, if_pos (show i = 0 by omega), List.length_append, List.length_nil, List.append_assoc] at ih ⊢
      exact ⟨hx1, by omega, ih (by omega)⟩

noncomputable def lsPrint (j : J) : Nat → St → Option LRes := fun id s => match id, s.tm.get 3, s.tm.get 4 with
  | 1, .str ends, .str out => some ⟨out ++ pjs (j.kind == 5) true j.keys j.items, fun y => .one { keep := [1, 3, 4, 5] } (stP j ends out 0) (.exit 1) (stP j ends y j.items.length)⟩
  | _, _, _ => none
noncomputable def EPj (j : J) : Env := { P := Tryz.prog, vw := vwA, res := (resQuo.or resPrint).or (resDg dg), ls := lsPrint j, vs := [(5, 4, .str ([[102, 97, 108, 115, 101], [116, 114, 117, 101]].getD j.n.toNat []))] }

set_option maxRecDepth 100000 in
theorem printT (j : J) : fnT (EPj j) 0 fPrint [.agg (vwJ j)] [] =
  bif J.kind j == (0 : Int) then T.done (Ret.mk (V.str [110, 117, 108, 108]) [] [])
  else
    bif J.kind j == (1 : Int) then
      T.need [(0 : Int) ≤ J.n j ∧ J.n j < (2 : Int)]
        (T.need
          [[V.str [102, 97, 108, 115, 101], V.str [116, 114, 117, 101]][0 + Int.toNat (J.n j) * 1]? =
              some (V.str (List.getD [[(102 : UInt8), (97 : UInt8), (108 : UInt8), (115 : UInt8), (101 : UInt8)], [(116 : UInt8), (114 : UInt8), (117 : UInt8), (101 : UInt8)]] (Int.toNat (J.n j)) []))]
          (T.done (Ret.mk (V.str (List.getD [[(102 : UInt8), (97 : UInt8), (108 : UInt8), (115 : UInt8), (101 : UInt8)], [(116 : UInt8), (114 : UInt8), (117 : UInt8), (101 : UInt8)]] (Int.toNat (J.n j)) [])) [] [])))
    else
      bif J.kind j == (2 : Int) then T.bind (dg (J.n j)) fun y0 => T.need [FnOK (Env.P (EPj j)) 62 [V.int IntKind.i64 (J.n j)] [] (Ret.mk (V.str y0) [] [])] (T.done (Ret.mk (V.str y0) [] []))
      else
        bif J.kind j == (3 : Int) then T.bind (quo (J.t j)) fun y1 => T.need [FnOK (Env.P (EPj j)) 63 [V.str (J.t j)] [] (Ret.mk (V.str y1) [] [])] (T.done (Ret.mk (V.str y1) [] []))
        else
          bif J.kind j == (5 : Int) then
            T.need [(0 : Int) ≤ (1 : Int) ∧ (1 : Int) ≤ (2 : Int)]
              (T.bind ([(123 : UInt8)] ++ pjs (J.kind j == (5 : Int)) true (J.keys j) (J.items j)) fun y2 =>
                T.need
                  [St.mk (mkTm 67 [(1, V.ptr 0 0), (3, V.str [123, 125]), (4, V.str [123]), (5, V.int IntKind.i64 (0 : Int))])
                        [some (vwJ j, 28)] [] =
                      St.mk (mkTm 67 [(1, V.ptr 0 0), (3, V.str [123, 125]), (4, V.str [123]), (5, V.int IntKind.i64 (0 : Int))])
                        [some (vwJ j, 28)] [],
                    SoundC (Env.P (EPj j)) 0 (blk Tryz.prog fPrint 1)
                      (St.mk (mkTm 67 [(1, V.ptr 0 0), (3, V.str [123, 125]), (4, V.str [123]), (5, V.int IntKind.i64 (0 : Int))])
                        [some (vwJ j, 28)] [])
                      (Ex.exit 1)
                      (St.mk
                        (mkTm 67
                          [(1, V.ptr 0 0), (3, V.str [123, 125]), (4, V.str y2), (5, V.int IntKind.i64 (↑(List.length (J.items j)) : Int))])
                        [some (vwJ j, 28)] [])]
                  (T.need [(0 : Int) ≤ (1 : Int) ∧ (1 : Int) ≤ (2 : Int)] (T.need [List.length y2 + 1 ≤ 4611686018427387904] (T.done (Ret.mk (V.str (y2 ++ [(125 : UInt8)])) [] [])))))
          else
            T.need [(0 : Int) ≤ (1 : Int) ∧ (1 : Int) ≤ (2 : Int)]
              (T.bind ([(91 : UInt8)] ++ pjs (J.kind j == (5 : Int)) true (J.keys j) (J.items j)) fun y3 =>
                T.need
                  [St.mk (mkTm 67 [(1, V.ptr 0 0), (3, V.str [91, 93]), (4, V.str [91]), (5, V.int IntKind.i64 (0 : Int))])
                        [some (vwJ j, 28)] [] =
                      St.mk (mkTm 67 [(1, V.ptr 0 0), (3, V.str [91, 93]), (4, V.str [91]), (5, V.int IntKind.i64 (0 : Int))])
                        [some (vwJ j, 28)] [],
                    SoundC (Env.P (EPj j)) 0 (blk Tryz.prog fPrint 1)
                      (St.mk (mkTm 67 [(1, V.ptr 0 0), (3, V.str [91, 93]), (4, V.str [91]), (5, V.int IntKind.i64 (0 : Int))])
                        [some (vwJ j, 28)] [])
                      (Ex.exit 1)
                      (St.mk
                        (mkTm 67 [(1, V.ptr 0 0), (3, V.str [91, 93]), (4, V.str y3), (5, V.int IntKind.i64 (↑(List.length (J.items j)) : Int))])
                        [some (vwJ j, 28)] [])]
                  (T.need [(0 : Int) ≤ (1 : Int) ∧ (1 : Int) ≤ (2 : Int)] (T.need [List.length y3 + 1 ≤ 4611686018427387904] (T.done (Ret.mk (V.str (y3 ++ [(93 : UInt8)])) [] []))))) := by kernel_rfl

theorem pj_eq (j : J) : pj j = if j.kind = 0 then [110, 117, 108, 108] else if j.kind = 1 then [[102, 97, 108, 115, 101], [116, 114, 117, 101]].getD j.n.toNat [] else if j.kind = 2 then dg j.n else if j.kind = 3 then quo j.t
    else (if j.kind = 5 then [123] else [91]) ++ pjs (j.kind == 5) true j.keys j.items ++ (if j.kind = 5 then [125] else [93]) := by
  cases j; rfl

/-- What printing asks of the value's own fields. -/
structure PrTop (j : J) : Prop where
  bool : j.kind = 1 → 0 ≤ j.n ∧ j.n < 2
  num : -9223372036854775808 < j.n ∧ j.n ≤ 9223372036854775807
  text : j.t.length ≤ 1048576

theorem print_top (j : J) (h : PrTop j) (hj : PrOK j) (hlen : (pjs (j.kind == 5) true j.keys j.items).length ≤ 4611686018427387000) : FnOK Tryz.prog fPrint [.agg (vwJ j)] [] ⟨.str (pj j), [], []⟩ := by
  rw [pj_eq]
  refine fnOK_TL (E := EPj j) follows named (printT j) (by simp) ?_
  simp only [WP_cond, T.WP, All, and_true, beq_iff_eq, beq_eq_false_iff_ne, ne_eq]
  have hL := pr_loop j hj
  refine ⟨fun k0 => ?_, fun k0 => ⟨fun k1 => ?_, fun k1 => ⟨fun k2 y e => ?_, fun k2 => ⟨fun k3 y e => ?_, fun k3 => ⟨fun k5 => ⟨by omega, fun y e => ?_⟩, fun k5 => ⟨by omega, fun y e => ?_⟩⟩⟩⟩⟩⟩
  · rw [if_pos k0]; exact ⟨rfl, rfl, by simp⟩
  · have hb := h.bool k1
    refine ⟨hb, ?_, ?_⟩
    · have : j.n = 0 ∨ j.n = 1 := by omega
      rcases this with e | e <;> rw [e] <;> rfl
    · rw [if_neg k0, if_pos k1]; exact ⟨rfl, rfl, by simp⟩
  · subst e
    rw [if_neg k0, if_neg k1, if_pos k2]
    exact ⟨dg_ok _ h.num, ⟨rfl, rfl, by simp⟩⟩
  · subst e
    rw [if_neg k0, if_neg k1, if_neg k2, if_pos k3]
    exact ⟨quote_ok _ h.text, ⟨rfl, rfl, by simp⟩⟩
  · subst e
    have h0 := hL [123, 125] j.items.length [123] 0 (by omega) (by simp)
    rw [List.drop_zero, List.drop_zero] at h0
    rw [if_neg k0, if_neg k1, if_neg k2, if_neg k3]
    simp only [if_pos k5]
    exact ⟨⟨trivial, .loopTo h0⟩, ⟨by omega, by omega⟩, by simp only [List.length_append, List.length_cons, List.length_nil]; omega, ⟨rfl, rfl, by simp⟩⟩
  · subst e
    have h0 := hL [91, 93] j.items.length [91] 0 (by omega) (by simp)
    rw [List.drop_zero, List.drop_zero] at h0
    rw [if_neg k0, if_neg k1, if_neg k2, if_neg k3]
    simp only [if_neg k5]
    exact ⟨⟨trivial, .loopTo h0⟩, ⟨by omega, by omega⟩, by simp only [List.length_append, List.length_cons, List.length_nil]; omega, ⟨rfl, rfl, by simp⟩⟩

end Go.Proofs.YtjgancippgpdhaaGreatDoor

namespace Go.Proofs.YtjgancippgpdhaaGreatDoor
open Go.RowKit
set_option maxRecDepth 100000

/-- A value that can be printed, on at most b bytes. -/
structure Pr (b : Nat) (j : J) : Prop where
  ok : FnOK Tryz.prog fPrint [.agg (vwJ j)] [] ⟨.str (pj j), [], []⟩
  len : (pj j).length ≤ b
theorem Pr.more {b c : Nat} {j : J} (h : Pr b j) (hc : b ≤ c) : Pr c j := ⟨h.ok, Nat.le_trans h.len hc⟩

theorem pjs_len (o : Bool) (b : Nat) : ∀ (its : List J) (a : Bool) (ks : List (List UInt8)), (∀ x ∈ its, (pj x).length ≤ b) → (∀ s ∈ ks, s.length ≤ 2) → (pjs o a ks its).length ≤ its.length * (b + 8)
  | [], _, _, _, _ => by simp [pjs]
  | j :: js, a, ks, h, hk => by
    have h1 := h j (by simp)
    have ih := pjs_len o b js false ks.tail (fun x hx => h x (by simp [hx])) (fun s hs => hk s (List.mem_of_mem_tail hs))
    have h2 : (quo (ks.headD [])).length ≤ 6 := by
      have := quo_len (ks.headD [])
      have h3 : (ks.headD []).length ≤ 2 := by
        cases ks with
        | nil => simp
        | cons k ks => exact hk k (by simp)
      omega
    rw [pjs, List.length_cons, Nat.add_mul, Nat.one_mul]
    simp only [List.length_append]
    have h3 : (if a = true then ([] : List UInt8) else [44]).length ≤ 1 := by split <;> simp
    have h4 : (if o = true then quo (ks.headD []) ++ [58] else ([] : List UInt8)).length ≤ 7 := by
      split
      · rw [List.length_append, List.length_cons, List.length_nil]; omega
      · simp
    omega

theorem prOK_none (k n : Int) (t : List UInt8) : PrOK (.mk k n t [] []) := ⟨fun x h => (nomatch h), fun x h => (nomatch h), by simp [J.items], fun _ => by simp [J.items, J.keys]⟩
theorem pr_null (n : Int) (t : List UInt8) (hn : -9223372036854775808 < n ∧ n ≤ 9223372036854775807) (ht : t.length ≤ 1048576) : Pr 24 (.mk 0 n t [] []) :=
  ⟨print_top _ ⟨fun h => by simp [J.kind] at h, hn, ht⟩ (prOK_none ..) (by simp [pjs, J.items]), by simp [pj]⟩
theorem pr_bool (n : Int) (hn : 0 ≤ n ∧ n < 2) : Pr 24 (.mk 1 n [] [] []) :=
  ⟨print_top _ ⟨fun _ => hn, by simp only [J.n]; omega, by simp [J.t]⟩ (prOK_none ..) (by simp [pjs, J.items]), by
    have : n = 0 ∨ n = 1 := by omega
    rcases this with rfl | rfl <;> simp [pj]⟩
theorem pr_num (n : Int) (hn : -9223372036854775808 < n ∧ n ≤ 9223372036854775807) : Pr 24 (.mk 2 n [] [] []) :=
  ⟨print_top _ ⟨fun h => by simp [J.kind] at h, hn, by simp [J.t]⟩ (prOK_none ..) (by simp [pjs, J.items]), by
    have := dg_len n
    rw [pj_eq]; simp [J.kind, J.n]; omega⟩
theorem pr_text (t : List UInt8) (ht : t.length ≤ 11) : Pr 24 (.mk 3 0 t [] []) :=
  ⟨print_top _ ⟨fun h => by simp [J.kind] at h, by simp [J.n], by simp only [J.t]; omega⟩ (prOK_none ..) (by simp [pjs, J.items]), by
    have := quo_len t
    rw [pj_eq]; simp [J.kind, J.t]; omega⟩
theorem pr_many {b : Nat} (hb : b ≤ 1000000) (k : Int) (hk : k = 4 ∨ k = 5) (ks : List (List UInt8)) (L : List J) {m : Nat} (hm : m ≤ 1000) (hL : L.length ≤ m) (h : ∀ x ∈ L, Pr b x) (hs : ∀ s ∈ ks, s.length ≤ 2) (hkl : k = 5 → L.length ≤ ks.length) : Pr (m * (b + 8) + 2) (.mk k 0 [] ks L) := by
  have h1 := fun o a => pjs_len o b L a ks (fun x hx => (h x hx).len) hs
  have h2 : L.length * (b + 8) ≤ m * (b + 8) := Nat.mul_le_mul_right _ hL
  have h3 : m * (b + 8) ≤ 1000 * (b + 8) := Nat.mul_le_mul_right _ hm
  refine ⟨print_top _ ⟨fun h => by simp only [J.kind] at h; omega, by simp [J.n], by simp [J.t]⟩ ⟨fun x hx => ⟨(h x hx).ok, ?_⟩, fun s hx => ?_, ?_, hkl⟩ ?_, ?_⟩
  · have := (h x hx).len; omega
  · have := hs s hx; omega
  · simp only [J.items]; omega
  · have := h1 (k == 5) true
    simp only [J.kind, J.items, J.keys]; omega
  · have g1 := h1 false true
    have g2 := h1 true true
    rcases hk with rfl | rfl
    · rw [show pj (.mk 4 0 [] ks L) = [91] ++ pjs false true ks L ++ [93] by rw [pj]; rfl]
      simp only [List.length_append, List.length_cons, List.length_nil]; omega
    · rw [show pj (.mk 5 0 [] ks L) = [123] ++ pjs true true ks L ++ [125] by rw [pj]; rfl]
      simp only [List.length_append, List.length_cons, List.length_nil]; omega

/-- Everything that a draw can give can be printed. -/
def DrawPr (f : Src → J × Src) (q b : Nat) : Prop := ∀ x c, x.OK (c + q) → Pr b (f x).1

theorem drawList_pr {f : Src → J × Src} {d : Int} {q b : Nat} (hf : Draw f d q) (hp : DrawPr f q b) : ∀ (i : Nat) (x : Src) (L : List J) (c : Nat), x.OK (c + i * q) → (∀ y ∈ L, Pr b y) → (∀ y ∈ (drawList f i x L).1, Pr b y) ∧ (drawList f i x L).1.length = L.length + i
  | 0, x, L, c, h, hL => ⟨hL, rfl⟩
  | i + 1, x, L, c, h, hL => by
    have hc : x.OK ((c + i * q) + q) := by rw [Nat.add_mul, Nat.one_mul, ← Nat.add_assoc] at h; exact h
    unfold drawList
    have := drawList_pr hf hp i (f x).2 (L ++ [(f x).1]) c (hf.cost x _ hc) (by
      intro y hy
      rcases List.mem_append.1 hy with hy | hy
      · exact hL y hy
      · rw [List.mem_singleton.1 hy]; exact hp x _ hc)
    refine ⟨this.1, ?_⟩
    rw [this.2]; simp; omega
theorem drawObj_pr {f : Src → J × Src} {d : Int} {q b : Nat} (hf : Draw f d q) (hp : DrawPr f q b) : ∀ (t : List (List UInt8)) (x : Src) (ks : List (List UInt8)) (L : List J) (c : Nat), x.OK (c + t.length * (q + 3)) → (∀ y ∈ L, Pr b y) → (∀ s ∈ t, s.length ≤ 2) → (∀ s ∈ ks, s.length ≤ 2) → (∀ y ∈ (drawObj f t x ks L).2.1, Pr b y) ∧ (∀ s ∈ (drawObj f t x ks L).1, s.length ≤ 2) ∧ (drawObj f t x ks L).2.1.length ≤ L.length + t.length
  | [], x, ks, L, c, h, hL, ht, hk => ⟨hL, hk, by simp [drawObj]⟩
  | k :: t, x, ks, L, c, h, hL, ht, hk => by
    have hc : x.OK ((c + t.length * (q + 3) + q) + 3) := by
      refine h.less ?_
      rw [List.length_cons, Nat.add_mul, Nat.one_mul]; omega
    have hx := chanceF_ok (n := 2) hc (by omega)
    unfold drawObj
    split
    · have := drawObj_pr hf hp t (f (chanceF x 2).2).2 (ks ++ [k]) (L ++ [(f (chanceF x 2).2).1]) c (hf.cost _ _ hx) (by
        intro y hy
        rcases List.mem_append.1 hy with hy | hy
        · exact hL y hy
        · rw [List.mem_singleton.1 hy]; exact hp _ _ hx) (fun s hs => ht s (by simp [hs])) (by
        intro y hy
        rcases List.mem_append.1 hy with hy | hy
        · exact hk y hy
        · rw [List.mem_singleton.1 hy]; exact ht k (by simp))
      refine ⟨this.1, this.2.1, ?_⟩
      have := this.2.2
      simp at this ⊢; omega
    · have := drawObj_pr hf hp t (chanceF x 2).2 ks L c (hx.less (by omega)) hL (fun s hs => ht s (by simp [hs])) hk
      refine ⟨this.1, this.2.1, ?_⟩
      have := this.2.2
      simp at this ⊢; omega

theorem jsonK_pr {f : Src → J × Src} {d : Int} {q b : Nat} {k : Int} (hf : 4 ≤ k → Draw f d q ∧ DrawPr f q b) (hb : 24 ≤ 4 * (b + 8) + 2 ∧ b ≤ 1000000) {x : Src} {c : Nat} (h : x.OK (c + (4 * q + 15))) (hk : 0 ≤ k ∧ k < 6) : Pr (4 * (b + 8) + 2) (jsonK f k x).1 ∧ (k < 4 → Pr 24 (jsonK f k x).1) := by
  unfold jsonK
  split
  · have := pr_null 0 [] (by omega) (by simp)
    exact ⟨this.more hb.1, fun _ => this⟩
  split
  · have h1 := nextF_ok (c := c) (n := 2) (h.less (by omega)) (by omega)
    have := pr_bool _ h1.2
    exact ⟨this.more hb.1, fun _ => this⟩
  split
  · have h1 := nextF_ok (c := c + 3) (n := 20) (h.less (by omega)) (by omega)
    have h2 := nextF_ok (c := c) (n := 6) h1.1 (by omega)
    have h5 : 0 ≤ (nextF (nextF x 20).2 6).1.tdiv 5 := Int.tdiv_nonneg h2.2.1 (by omega)
    have h6 : (nextF (nextF x 20).2 6).1.tdiv 5 < 2 := by rw [Int.tdiv_eq_ediv_of_nonneg h2.2.1]; omega
    have : Pr 24 (.mk 2 ([(nextF x 20).1 - 9, 1000000000].getD ((nextF (nextF x 20).2 6).1.tdiv 5).toNat 0) [] [] []) := by
      refine pr_num _ ?_
      generalize (nextF (nextF x 20).2 6).1.tdiv 5 = z at h5 h6
      have : z = 0 ∨ z = 1 := by omega
      rcases this with rfl | rfl
      · show -9223372036854775808 < (nextF x 20).1 - 9 ∧ (nextF x 20).1 - 9 ≤ 9223372036854775807
        omega
      · show -9223372036854775808 < (1000000000 : Int) ∧ (1000000000 : Int) ≤ 9223372036854775807
        omega
    exact ⟨this.more hb.1, fun _ => this⟩
  split
  · have h1 := pickF_ok (c := c) (L := jsTexts) (h.less (by omega)) (by simp [jsTexts])
    have : Pr 24 (.mk 3 0 (pickF x jsTexts).1 [] []) := by
      refine pr_text _ ?_
      have : ∀ s ∈ jsTexts, s.length ≤ 11 := by decide
      exact this _ h1.2
    exact ⟨this.more hb.1, fun _ => this⟩
  split
  · obtain ⟨hf1, hf2⟩ := hf (by omega)
    have h1 := nextF_ok (c := c + 4 * q) (n := 4) (h.less (by omega)) (by omega)
    have h3 : (nextF x 4).1.toNat ≤ 4 := by omega
    have h4 := Nat.mul_le_mul_right q h3
    have := drawList_pr hf1 hf2 (nextF x 4).1.toNat (nextF x 4).2 [] c (h1.1.less (by omega)) (fun y hy => nomatch hy)
    refine ⟨pr_many hb.2 4 (.inl rfl) [] _ (m := 4) (by omega) (by rw [this.2]; simpa using h3) this.1 (fun s hs => nomatch hs) (fun h => by omega), fun h => by omega⟩
  · obtain ⟨hf1, hf2⟩ := hf (by omega)
    have := drawObj_pr hf1 hf2 objKeys x [] [] c (h.less (by simp only [objKeys, List.length_cons, List.length_nil]; omega)) (fun y hy => nomatch hy) (by decide) (fun s hs => nomatch hs)
    have hl := drawObj_len (f := f) objKeys x [] [] rfl
    exact ⟨pr_many hb.2 5 (.inr rfl) _ _ (m := 4) (by omega) this.2.2 this.1 this.2.1 (fun _ => by omega), fun h => by omega⟩

def bF : Nat → Nat
  | 0 => 24
  | d + 1 => 4 * (bF d + 8) + 2
theorem bF_ge : ∀ d, 24 ≤ bF d
  | 0 => Nat.le_refl _
  | d + 1 => by have := bF_ge d; unfold bF; omega
theorem json_pr : ∀ (d : Nat), d ≤ 6 → DrawPr (jsonF d) (qF d) (bF d)
  | 0, _ => by
    intro x c h
    have h1 := nextF_ok (c := c + 18) (n := 6) h (by omega)
    have h2 := nextF_ok (c := c + 15) (n := 4) h1.1 (by omega)
    exact (jsonK_pr (q := 0) (d := 0) (b := 24) (fun h => by omega) (by omega) h2.1 (by omega)).2 (by omega)
  | d + 1, hd => by
    intro x c h
    simp only [qF] at h
    have h1 := nextF_ok (c := c + (4 * qF d + 15)) (n := 6) (h.less (by omega)) (by omega)
    have hb : bF d ≤ 1000000 := by
      have : d = 0 ∨ d = 1 ∨ d = 2 ∨ d = 3 ∨ d = 4 ∨ d = 5 := by omega
      rcases this with rfl | rfl | rfl | rfl | rfl | rfl <;> decide
    have hg := bF_ge d
    exact (jsonK_pr (fun _ => ⟨json_draw d (by omega), json_pr d (by omega)⟩) (by omega) h1.1 h1.2).1

end Go.Proofs.YtjgancippgpdhaaGreatDoor

namespace Go.Proofs.YtjgancippgpdhaaGreatDoor
open Go.RowKit
set_option maxRecDepth 100000

mutual
/-- What a value is when block 0 is given away. -/
def lend (cs : List V) : V → V
  | .int k n => .int k n
  | .bool b => .bool b
  | .str s => .str s
  | .nilp => .nilp
  | .sl 0 0 n _ => .dsl n false cs
  | .dsl n _ c => .dsl n false c
  | .dptr c => .dptr c
  | .agg l => .agg (lendL cs l)
  | _ => .junk
def lendL (cs : List V) : List V → List V
  | [] => []
  | x :: t => lend cs x :: lendL cs t
end

section
variable {P : Program} {I I2 : Nat → Prop} {μ : Mu} {w : World} {cs : List V} {g : Nat}
mutual
theorem lend_sound (hI : Sub I I2) (hg : I2 g) (hm : μ 0 = some g) (hc : ∃ cells e fr, w.heap[g]? = some (.cells cells e fr) ∧ V.RL P I2 noMu w cs (cells.toList.take cs.length)) : ∀ (x : V) (u : Value), V.R P I μ w x u → V.R P I2 noMu w (lend cs x) u
  | .int k n, u, h => by simpa only [lend, V.R] using h
  | .bool b, u, h => by simpa only [lend, V.R] using h
  | .str s, u, h => by simpa only [lend, V.R] using h
  | .nilp, u, h => by simpa only [lend, V.R] using h
  | .sl 0 0 n full, u, h => by
    simp only [V.R] at h
    obtain ⟨g', cap, e, N, i, h1, h2, h3, h4, h5, h6⟩ := h
    rw [hm] at h1; cases h1
    obtain ⟨cells, e', fr, k1, k2⟩ := hc
    simp only [lend, V.R]
    exact ⟨_, cap, h2, h3, fun h => (nomatch h), .inr ⟨g, 0, rfl⟩, .inr ⟨g, 0, rfl, hg, cells, e', fr, k1, by simpa using k2⟩⟩
  | .sl 0 (_ + 1) n full, u, h => by simp only [lend, V.R]
  | .sl (_ + 1) _ n full, u, h => by simp only [lend, V.R]
  | .dsl n f c, u, h => by
    have h' : V.R P I noMu w (.dsl n false c) u := by
      simp only [V.R] at h ⊢
      obtain ⟨a, cap, h1, h2, _, h3⟩ := h
      exact ⟨a, cap, h1, h2, fun h => (nomatch h), h3⟩
    exact h'.keep (.refl w (fun _ => False)) hI (.refl _)
  | .dptr c, u, h => (RL_nomu [.dptr c] [u] (by simp [V.refsL, V.refs]) ⟨u, [], rfl, h, rfl⟩ |> fun ⟨_, _, e, h, _⟩ => by
      cases e
      exact h.keep (.refl w (fun _ => False)) hI (.refl _))
  | .agg l, u, h => by
    simp only [V.R, lend] at h ⊢
    obtain ⟨vs, h1, h2⟩ := h
    exact ⟨vs, h1, lendL_sound hI hg hm hc l _ h2⟩
  | .ptr _ _, u, h => by simp only [lend, V.R]
  | .sld _, u, h => by simp only [lend, V.R]
  | .tup _, u, h => by simp only [lend, V.R]
  | .fn _ _, u, h => by simp only [lend, V.R]
  | .box _ _, u, h => by simp only [lend, V.R]
  | .nilf, u, h => by simp only [lend, V.R]
  | .lit _, u, h => by simp only [lend, V.R]
  | .junk, u, h => by simp only [lend, V.R]
theorem lendL_sound (hI : Sub I I2) (hg : I2 g) (hm : μ 0 = some g) (hc : ∃ cells e fr, w.heap[g]? = some (.cells cells e fr) ∧ V.RL P I2 noMu w cs (cells.toList.take cs.length)) : ∀ (l : List V) (us : List Value), V.RL P I μ w l us → V.RL P I2 noMu w (lendL cs l) us
  | [], us, h => by simpa only [lendL, V.RL] using h
  | x :: t, us, h => by
    simp only [V.RL, lendL] at h ⊢
    obtain ⟨u, us', h1, h2, h3⟩ := h
    exact ⟨u, us', h1, lend_sound hI hg hm hc x u h2, lendL_sound hI hg hm hc t us' h3⟩
end
end

theorem FnOK.give {P : Program} {f : FuncId} {vs : List V} {v : V} {c cs : List V} {T : TypeId} (hr : V.refsL c = []) (hcs : flat c = cs) (h : FnOK P f (lendL cs vs) [] ⟨v, [], []⟩) : FnOK P f vs [some (c, T)] ⟨v, [none], [0]⟩ := by
  subst hcs
  generalize hcs : flat c = cs at h
  obtain ⟨_, hmain⟩ := h
  refine ⟨⟨by simp, fun b hb hn => ?_, fun b hb => ?_, fun b hb ⟨blk, hal⟩ => ?_⟩, fun I w μ vals hvals pre hdom => ?_⟩
  · simp at hb hn; omega
  · simp at hb ⊢; omega
  · have : b = 0 := by simpa using hb
    subst this
    simp at hal
  have hh := (pre.holds 0 (by simp) _ rfl).toSeal hr
  rw [hcs] at hh
  obtain ⟨g, cells, fr, k1, k2, k3, k4, k5, k6⟩ := hh
  have hcr := CR.toRL k6
  simp only [flat] at hcr k5
  obtain ⟨us, vs', e1, e2, e3⟩ := CR.seal_iff.1 k6
  simp only [CR] at e3
  subst e3
  simp only [flat, List.append_nil] at e1
  let I2 : Nat → Prop := fun k => I k ∨ k = g
  have hI : Sub I I2 := fun k hk => .inl hk
  have hglt : g < w.heap.size := by
    rcases Nat.lt_or_ge g w.heap.size with h | h
    · exact h
    · rw [Array.getElem?_eq_none h] at k3; cases k3
  have hc : ∃ cells e fr, w.heap[g]? = some (.cells cells e fr) ∧ V.RL P I2 noMu w cs (cells.toList.take cs.length) := ⟨cells, _, fr, k3, by rw [e1]; exact e2.keep (.refl w (fun _ => False)) hI (.refl _)⟩
  have hv2 := lendL_sound (I2 := I2) hI (.inr rfl) k1 hc vs _ hvals
  have pre2 : Pre P I2 noMu w [] (List.range ([] : Hp).length) 0 := by
    refine ⟨pre.ilt.step (.refl w (fun _ => False)) hI fun k hk => ?_, fun b hb => by simp at hb, fun b hb => by simp at hb, fun b _ hb => by omega⟩
    rcases hk with hk | rfl
    · exact pre.ilt k hk
    · exact hglt
  refine (hmain I2 w noMu vals hv2 pre2 (fun b g h => by cases h)).mono fun e w' ⟨val, μ', I', he, hR, G⟩ => ⟨val, μ, I', he, ?_, ?_⟩
  · refine hR.keep (.refl w' (fun _ => False)) (.refl _) (fun b g hb => ?_)
    rcases G.dom b g hb with h | ⟨h1, h2⟩
    · cases h
    · simp at h2
  · refine ⟨fun k hk => G.isub k (.inl hk), fun k hk => ?_, ?_, .refl _, fun b g h => .inl h, fun b hb blk hblk => ?_, fun b hb blk hblk => ?_, fun b c blk blk' g hne hb hc h1 h2 => ?_⟩
    · rcases G.igrow k hk with (h | rfl) | h | ⟨c, h1, _⟩
      · exact .inl h
      · exact .inr (.inr ⟨0, by simp, k1, ⟨_, rfl⟩, rfl⟩)
      · exact .inr (.inl h)
      · simp at h1
    · exact (G.evo.less hI).mono fun j ⟨b, hb, _⟩ => by simp at hb
    · rcases b with _ | b <;> simp at hblk
    · rcases b with _ | b <;> simp at hblk
    · rcases b with _ | b <;> simp at h1

def one (j : J) : J := .mk 4 0 [] [] [j]

end Go.Proofs.YtjgancippgpdhaaGreatDoor

namespace Go.Proofs.YtjgancippgpdhaaGreatDoor.Fr

structure F where
  buf : List UInt8
  depth : Int
  quote : Bool
  skip : Bool
  closed : Bool
deriving DecidableEq

def F.zero : F := ⟨[], 0, false, false, false⟩
def F.shut : F := ⟨[], 0, false, false, true⟩

def blank (b : Int) : Bool := b == 32 || b == 9 || b == 10 || b == 13

/-- the reference: a byte more -/
def sByte (f : F) (b : UInt8) : F × Bool :=
  if f.depth == 0 && blank b.toNat then (f, false)
  else if f.depth == 0 && (b.toNat : Int) != 123 && (b.toNat : Int) != 91 then (F.shut, false)
  else
    let f1 : F := { f with buf := f.buf ++ [b] }
    if 3000 < f1.buf.length then (F.shut, false)
    else if f1.skip then ({ f1 with skip := false }, false)
    else if f1.quote && (b.toNat : Int) == 92 then ({ f1 with skip := true }, false)
    else if (b.toNat : Int) == 34 then ({ f1 with quote := !f1.quote }, false)
    else if f1.quote then (f1, false)
    else if (b.toNat : Int) == 123 || (b.toNat : Int) == 91 then
      if 12 < f1.depth + 1 then (F.shut, false) else ({ f1 with depth := f1.depth + 1 }, false)
    else if (b.toNat : Int) == 125 || (b.toNat : Int) == 93 then ({ f1 with depth := f1.depth - 1 }, f1.depth - 1 == 0)
    else (f1, false)

structure SS where
  f : F
  out : List (List UInt8)

def sStep (s : SS) (b : UInt8) : SS :=
  if s.f.closed then s
  else if (sByte s.f b).2 then ⟨F.zero, s.out ++ [(sByte s.f b).1.buf]⟩ else ⟨(sByte s.f b).1, s.out⟩

def sFeed (f : F) (t : List UInt8) : SS := t.foldl sStep ⟨f, []⟩

/-- the program: a byte within a text; 'buf' stands aside -/
structure G where
  depth : Int
  quote : Bool
  skip : Bool
  closed : Bool
deriving DecidableEq

def inText (f : G) (b : Int) (long : Bool) : G × Bool :=
  let g : G :=
    if long then { f with closed := true }
    else if f.skip then { f with skip := false }
    else if f.quote then { f with skip := b == 92, quote := b != 34 }
    else if b == 34 then { f with quote := true }
    else if b == 123 || b == 91 then { f with depth := f.depth + 1, closed := decide (12 < f.depth + 1) }
    else if b == 125 || b == 93 then { f with depth := f.depth - 1 }
    else f
  (g, !g.closed && g.depth == 0)

structure IS where
  g : G
  buf : List UInt8
  out : List (List UInt8)

def iStep (s : IS) (b : UInt8) : IS :=
  if s.g.closed then s
  else if s.g.depth == 0 && blank b.toNat then s
  else if s.g.depth == 0 && (b.toNat : Int) != 123 && (b.toNat : Int) != 91 then { s with g := { s.g with closed := true } }
  else if (inText s.g b.toNat (decide (3000 < (s.buf.length : Int) + 1))).2 then ⟨(inText s.g b.toNat (decide (3000 < (s.buf.length : Int) + 1))).1, [], s.out ++ [s.buf ++ [b]]⟩
  else ⟨(inText s.g b.toNat (decide (3000 < (s.buf.length : Int) + 1))).1, s.buf ++ [b], s.out⟩

def iFeed (f : F) (t : List UInt8) : IS := t.foldl iStep ⟨⟨f.depth, f.quote, f.skip, f.closed⟩, f.buf, []⟩

def IS.done (s : IS) : F := if s.g.closed then F.shut else ⟨s.buf, s.g.depth, s.g.quote, s.g.skip, false⟩

/-- what holds of every framer that is not closed -/
def IS.ok (s : IS) : Prop :=
  s.g.closed = true ∨ (0 ≤ s.g.depth ∧ s.g.depth ≤ 12 ∧ s.buf.length ≤ 3000 ∧ (s.g.depth = 0 → s.buf = [] ∧ s.g.quote = false ∧ s.g.skip = false) ∧ (s.g.skip = true → s.g.quote = true))

def F.ok (f : F) : Prop :=
  f.closed = true ∨ (0 ≤ f.depth ∧ f.depth ≤ 12 ∧ f.buf.length ≤ 3000 ∧ (f.depth = 0 → f.buf = [] ∧ f.quote = false ∧ f.skip = false) ∧ (f.skip = true → f.quote = true))

theorem F.zero_ok : F.zero.ok := .inr (by simp [F.zero])
theorem F.shut_ok : F.shut.ok := .inl rfl

/-- One step of the one is one step of the other. -/
theorem step_alike (s : IS) (b : UInt8) (h : s.ok) : (iStep s b).ok ∧ sStep ⟨s.done, s.out⟩ b = ⟨(iStep s b).done, (iStep s b).out⟩ := by
  obtain ⟨⟨d, q, k, c⟩, buf, out⟩ := s
  cases c
  · rcases h with h | ⟨h1, h2, h3, h4, h5⟩
    · simp at h
    simp only at h1 h2 h3 h4 h5
    generalize hb : (b.toNat : Int) = n
    unfold iStep sStep sByte
    simp only [IS.done, F.shut, hb, Bool.false_eq_true, if_false]
    by_cases c1 : (d == 0 && blank n) = true
    · simp only [c1, if_true]
      exact ⟨.inr ⟨h1, h2, h3, h4, h5⟩, by simp⟩
    simp only [c1]
    by_cases c2 : (d == 0 && n != 123 && n != 91) = true
    · simp only [c2, if_true]
      exact ⟨.inl rfl, by simp⟩
    simp only [c2]
    have hl : (buf ++ [b]).length = buf.length + 1 := by simp
    by_cases c3 : 3000 < buf.length + 1
    · have c3' : (3000 : Int) < (buf.length : Int) + 1 := by omega
      simp only [hl, c3, c3', decide_true, inText, if_true, Bool.not_true, Bool.false_and, Bool.false_eq_true, if_false]
      exact ⟨.inl rfl, by simp⟩
    have c3' : ¬ (3000 : Int) < (buf.length : Int) + 1 := by omega
    have hd0 : d = 0 → n = 123 ∨ n = 91 := by
      intro e; subst e; simp at c2; by_cases e : n = 123
      · exact .inl e
      · exact .inr (c2 e)
    simp only [hl, c3, c3', decide_false, inText, Bool.false_eq_true, if_false]
    cases k
    · cases q
      · simp only [Bool.false_eq_true, if_false, Bool.false_and]
        by_cases e34 : (n == 34) = true
        · have : n = 34 := by simpa using e34
          have hd : d ≠ 0 := by intro e; rcases hd0 e with e | e <;> omega
          simp [e34, hd, IS.ok]; omega
        · simp only [e34]
          by_cases eb : (n == 123 || n == 91) = true
          · simp only [eb, if_true]
            by_cases e12 : 12 < d + 1
            · simp [e12, IS.ok]
            · have hd1 : d + 1 ≠ 0 := by omega
              simp [e12, IS.ok, hd1]; omega
          · have hd : d ≠ 0 := by intro e; apply eb; rcases hd0 e with e | e <;> simp [e]
            simp only [eb]
            by_cases ec : (n == 125 || n == 93) = true
            · simp only [ec, if_true]
              by_cases e1 : d - 1 = 0
              · simp [e1, IS.ok, F.zero]
              · simp [e1, IS.ok]; omega
            · simp [ec, hd, IS.ok]; omega
      · have hd : d ≠ 0 := by intro e; simpa using (h4 e).2.1
        simp only [Bool.true_and, if_true, Bool.not_true, Bool.false_eq_true, if_false]
        by_cases e92 : (n == 92) = true
        · have : n = 92 := by simpa using e92
          subst this
          simp [hd, IS.ok]; omega
        · by_cases e34 : (n == 34) = true
          · have : n = 34 := by simpa using e34
            subst this
            simp [hd, IS.ok]; omega
          · have e92' : (n == 92) = false := by simpa using e92
            have e34' : (n == 34) = false := by simpa using e34
            have e34'' : (n != 34) = true := by simp [bne, e34']
            simp [e92', e34', e34'', hd, IS.ok]; omega
    · have hd : d ≠ 0 := by intro e; simpa using (h4 e).2.2
      simp [hd, IS.ok]; omega
  · simp [iStep, sStep, IS.done, F.shut, IS.ok]

theorem fold_alike (t : List UInt8) : ∀ (s : IS), s.ok → (t.foldl iStep s).ok ∧ t.foldl sStep ⟨s.done, s.out⟩ = ⟨(t.foldl iStep s).done, (t.foldl iStep s).out⟩ := by
  induction t with
  | nil => exact fun s h => ⟨h, rfl⟩
  | cons b t ih =>
    intro s h
    obtain ⟨h1, h2⟩ := step_alike s b h
    simp only [List.foldl_cons, h2]
    exact ih _ h1

theorem feed_alike (f : F) (t : List UInt8) (h : f.ok) (hc : f.closed = true → f = F.shut) : sFeed f t = ⟨(iFeed f t).done, (iFeed f t).out⟩ ∧ (iFeed f t).ok := by
  have h0 : IS.done ⟨⟨f.depth, f.quote, f.skip, f.closed⟩, f.buf, []⟩ = f := by
    unfold IS.done
    by_cases e : f.closed = true
    · rw [if_pos (by simpa using e)]; exact (hc e).symm
    · have e' : f.closed = false := by simpa using e
      simp only [e', Bool.false_eq_true, if_false]
      rw [← e']
  have h1 : IS.ok ⟨⟨f.depth, f.quote, f.skip, f.closed⟩, f.buf, []⟩ := h
  have := fold_alike t ⟨⟨f.depth, f.quote, f.skip, f.closed⟩, f.buf, []⟩ h1
  rw [h0] at this
  exact ⟨this.2, this.1⟩

theorem F.done_ok (s : IS) (h : s.ok) : s.done.ok ∧ (s.done.closed = true → s.done = F.shut) := by
  unfold IS.done
  by_cases e : s.g.closed = true
  · simp [e, F.shut_ok]
  · have e' : s.g.closed = false := by simpa using e
    rcases h with h | h
    · exact absurd h e
    · simp only [e', Bool.false_eq_true, if_false]
      exact ⟨.inr h, by simp⟩

end Go.Proofs.YtjgancippgpdhaaGreatDoor.Fr

namespace Go.Proofs.YtjgancippgpdhaaGreatDoor
open Go.RowKit
set_option maxRecDepth 100000

def vwF (f : Fr.F) : List V := [.str f.buf, .int .i64 f.depth, .bool f.quote, .bool f.skip, .bool f.closed]
abbrev tF : Nat := 31
def fB (f : Fr.F) : Option Blk := some (vwF f, tF)
theorem sFold_closed : ∀ (t : List UInt8) (x : Fr.SS), x.f.closed = true → t.foldl Fr.sStep x = x
  | [], _, _ => rfl
  | b :: t, x, h => by
    have : Fr.sStep x b = x := by unfold Fr.sStep; rw [if_pos h]
    rw [List.foldl_cons, this]; exact sFold_closed t x h
theorem sStep_len (x : Fr.SS) (b : UInt8) : x.out.length ≤ (Fr.sStep x b).out.length := by
  unfold Fr.sStep
  split
  · exact Nat.le_refl _
  · split
    · simp
    · exact Nat.le_refl _
theorem sFold_len : ∀ (t : List UInt8) (x : Fr.SS), x.out.length ≤ (t.foldl Fr.sStep x).out.length
  | [], _ => Nat.le_refl _
  | b :: t, x => by rw [List.foldl_cons]; exact Nat.le_trans (sStep_len x b) (sFold_len t _)
theorem done_bd {s : Fr.IS} (h : s.ok) : (-1000 ≤ s.done.depth ∧ s.done.depth ≤ 1000) ∧ s.done.buf.length ≤ 100000 := by
  unfold Fr.IS.done
  split
  · simp [Fr.F.shut]
  · rename_i hc
    rcases h with h | h
    · exact absurd h hc
    · simp only; omega
theorem step_next {s : Fr.IS} (h : s.ok) (b : UInt8) (hc : s.done.closed = false) : (Fr.iStep s b).ok ∧ (Fr.iStep s b).done = (if (Fr.sByte s.done b).2 then Fr.F.zero else (Fr.sByte s.done b).1) ∧ (Fr.iStep s b).out = (if (Fr.sByte s.done b).2 then s.out ++ [(Fr.sByte s.done b).1.buf] else s.out) := by
  obtain ⟨h1, h2⟩ := Fr.step_alike s b h
  refine ⟨h1, ?_⟩
  unfold Fr.sStep at h2
  simp only [hc, Bool.false_eq_true, if_false] at h2
  split at h2
  · rename_i h3
    have e1 := congrArg Fr.SS.f h2
    have e2 := congrArg Fr.SS.out h2
    simp only [h3, if_true] at e1 e2 ⊢
    exact ⟨e1.symm, e2.symm⟩
  · rename_i h3
    have e1 := congrArg Fr.SS.f h2
    have e2 := congrArg Fr.SS.out h2
    simp only [h3] at e1 e2 ⊢
    exact ⟨e1.symm, e2.symm⟩

def GF (f : Fr.F) : Prop := f.ok ∧ (f.closed = true → f = Fr.F.shut)
theorem GF.zero : GF Fr.F.zero := ⟨Fr.F.zero_ok, fun h => by simp [Fr.F.zero] at h⟩
theorem GF.is {f : Fr.F} (h : GF f) : ∃ s : Fr.IS, s.ok ∧ s.done = f ∧ s.out = [] := by
  refine ⟨⟨⟨f.depth, f.quote, f.skip, f.closed⟩, f.buf, []⟩, h.1, ?_, rfl⟩
  unfold Fr.IS.done
  obtain ⟨buf, d, q, k, c⟩ := f
  cases c
  · rfl
  · exact (h.2 rfl).symm
theorem GF.feed {f : Fr.F} (h : GF f) (t : List UInt8) : GF (Fr.sFeed f t).f := by
  obtain ⟨h1, h2⟩ := Fr.feed_alike f t h.1 h.2
  rw [h1]; exact Fr.F.done_ok _ h2
theorem sStep_out (x : Fr.SS) (b : UInt8) : (Fr.sStep x b).out.length ≤ x.out.length + 1 := by
  unfold Fr.sStep
  split
  · exact Nat.le_succ _
  · split
    · simp
    · exact Nat.le_succ _
theorem sFold_out : ∀ (t : List UInt8) (x : Fr.SS), (t.foldl Fr.sStep x).out.length ≤ x.out.length + t.length
  | [], _ => Nat.le_refl _
  | b :: t, x => by
    have h1 := sStep_out x b
    have h2 := sFold_out t (Fr.sStep x b)
    rw [List.foldl_cons, List.length_cons]; omega
theorem sFeed_out (f : Fr.F) (t : List UInt8) : (Fr.sFeed f t).out.length ≤ t.length := by
  have := sFold_out t ⟨f, []⟩
  simpa [Fr.sFeed] using this

/-- Pieces one by one. -/
def sAll : List (List UInt8) → Fr.SS → Fr.SS
  | [], x => x
  | t :: ts, x => sAll ts ⟨(Fr.sFeed x.f t).f, x.out ++ (Fr.sFeed x.f t).out⟩

end Go.Proofs.YtjgancippgpdhaaGreatDoor

/-
  A drawn stream.
-/
import Derived.Test.YtopebociobgmhaaRi
namespace Go.Proofs.Ytopebociobgmhaa
open Go.RowKit

theorem strStep_ok {x : Src} {t : List UInt8} {c : Nat} (h : x.OK (c + (qF 3 + 6))) : (strStep x t).2.OK c ∧ (strStep x t).1.length ≤ t.length + 2300 := by
  have hc : x.OK ((c + 3 + 3) + qF 3) := h.less (by omega)
  have hd := json_draw 3 (by omega)
  have h1 := hd.cost x _ hc
  have h2 := chanceF_ok (n := 3) h1 (by omega)
  have h3 := pickF_ok (L := blanks) h2 (by simp [blanks])
  have hp := json_pr 3 (by omega) x _ hc
  have hp1 : Pr (1 * (bF 3 + 8) + 2) (one (jsonF 3 x).1) := pr_many (by decide) 4 (.inl rfl) [] [(jsonF 3 x).1] (m := 1) (by omega) (by simp) (fun y hy => by rw [List.mem_singleton.1 hy]; exact hp) (fun s hs => nomatch hs) (fun h => by omega)
  have hl := hp1.len
  have hb : bF 3 = 2250 := by decide
  have h4 : (pickF (chanceF (jsonF 3 x).2 3).2 blanks).1.length ≤ 2 := by
    have : ∀ s ∈ blanks, s.length ≤ 2 := by decide
    exact this _ h3.2
  unfold strStep
  split
  · exact ⟨h3.1, by simp only [List.length_append]; omega⟩
  · exact ⟨h2.less (by omega), by simp only [List.length_append]; omega⟩
theorem strLoop_ok : ∀ (i : Nat) (x : Src) (t : List UInt8) (c : Nat), x.OK (c + i * (qF 3 + 6)) → (strLoop i x t).2.OK c ∧ (strLoop i x t).1.length ≤ t.length + i * 2300
  | 0, x, t, c, h => ⟨by simpa [strLoop] using h, by simp [strLoop]⟩
  | i + 1, x, t, c, h => by
    have hc : x.OK ((c + i * (qF 3 + 6)) + (qF 3 + 6)) := by
      refine h.less ?_
      rw [Nat.add_mul, Nat.one_mul]; omega
    have h1 := strStep_ok (t := t) hc
    have h2 := strLoop_ok i (strStep x t).2 (strStep x t).1 c h1.1
    unfold strLoop
    exact ⟨h2.1, by omega⟩

noncomputable def lsStr : Nat → St → Option LRes := fun id s => match s.hp with
  | some ([.dsl _ _ cs, .int _ k, .int _ sd], _) :: _ => match id, s.tm.get 4 with
    | 0, .int _ i => some ⟨strLoop i.toNat (srcOf cs k sd) [], fun y => .one { keep := [0, 3, 4] } (stS (srcOf cs k sd) [] i.toNat) (.exit 0) (stS y.2 y.1 0)⟩
    | _, _ => none
  | _ => none
noncomputable def EStr : Env := { P := Try.prog, vw := vwA, res := resSt, ls := lsStr }

--FOLD srcB vwJ stS
set_option maxRecDepth 100000 in
theorem streamT (x : Src) : fnT EStr 0 fStream [.ptr 0 0] [srcB x] =
  T.bind (nextF (srcOf (encs encByte (Src.l x)) (↑(Src.k x) : Int) (Src.s x)) (4 : Int)) fun y0 =>
    T.need [FnOK (Env.P EStr) 37 [V.ptr 0 0, V.int IntKind.i64 (4 : Int)] [srcB x] (Ret.mk (V.int IntKind.i64 (Prod.fst y0)) [srcB (Prod.snd y0)] [0])]
      (T.bind (strLoop (Int.toNat (Prod.fst y0)) (srcOf (encs encByte (Src.l (Prod.snd y0))) (↑(Src.k (Prod.snd y0)) : Int) (Src.s (Prod.snd y0))) []) fun y1 =>
        T.need
          [St.mk (mkTm 33 [(0, V.ptr 0 0), (3, V.str []), (4, V.int IntKind.i64 (Prod.fst y0))]) [srcB (Prod.snd y0)] [0] =
              stS (srcOf (encs encByte (Src.l (Prod.snd y0))) (↑(Src.k (Prod.snd y0)) : Int) (Src.s (Prod.snd y0))) [] (Int.toNat (Prod.fst y0)),
            SoundC (Env.P EStr) 1 (blk Try.prog fStream 0) (stS (srcOf (encs encByte (Src.l (Prod.snd y0))) (↑(Src.k (Prod.snd y0)) : Int) (Src.s (Prod.snd y0))) [] (Int.toNat (Prod.fst y0)))
              (Ex.exit 0) (stS (Prod.snd y1) (Prod.fst y1) (nat_lit 0))]
          (T.bind (chanceF (srcOf (encs encByte (Src.l (Prod.snd y1))) (↑(Src.k (Prod.snd y1)) : Int) (Src.s (Prod.snd y1))) (3 : Int)) fun y2 =>
            T.need [FnOK (Env.P EStr) 40 [V.ptr 0 0, V.int IntKind.i64 (3 : Int)] [srcB (Prod.snd y1)] (Ret.mk (V.bool (Prod.fst y2)) [srcB (Prod.snd y2)] [0])]
              (bif Prod.fst y2 then
                T.bind
                  (pickF (srcOf (encs encByte (Src.l (Prod.snd y2))) (↑(Src.k (Prod.snd y2)) : Int) (Src.s (Prod.snd y2)))
                    (strsOf
                      [V.str [91, 49], V.str [123, 34, 97], V.str [91, 34, 120, 92],
                        V.str [91, 91, 91, 91, 91, 91, 91, 91, 91, 91, 91, 91, 91],
                        V.str [91, 34, 93, 34], V.str [110, 117, 108, 108]]))
                  fun y3 =>
                  T.need
                    [FnOK (Env.P EStr) 41 [V.ptr 0 0, V.sl 1 0 6 true]
                        [srcB (Prod.snd y2),
                          some
                            ([V.str [91, 49], V.str [123, 34, 97], V.str [91, 34, 120, 92],
                                V.str [91, 91, 91, 91, 91, 91, 91, 91, 91, 91, 91, 91, 91],
                                V.str [91, 34, 93, 34], V.str [110, 117, 108, 108]],
                              9)]
                        (Ret.mk (V.str (Prod.fst y3))
                          [srcB (Prod.snd y3),
                            some
                              ([V.str [91, 49], V.str [123, 34, 97], V.str [91, 34, 120, 92],
                                  V.str
                                    [(91 : UInt8), (91 : UInt8), (91 : UInt8), (91 : UInt8), (91 : UInt8), (91 : UInt8), (91 : UInt8), (91 : UInt8), (91 : UInt8), (91 : UInt8), (91 : UInt8), (91 : UInt8), (91 : UInt8)],
                                  V.str [91, 34, 93, 34], V.str [110, 117, 108, 108]],
                                9)]
                          [0])]
                    (T.need [List.length (Prod.fst y1) + List.length (Prod.fst y3) ≤ 4611686018427387904] (T.done (Ret.mk (V.str (Prod.fst y1 ++ Prod.fst y3)) [srcB (Prod.snd y3)] [0])))
              else T.done (Ret.mk (V.str (Prod.fst y1)) [srcB (Prod.snd y2)] [0])))) := (T.force_eq _).symm.trans (by kernel_rfl)

def qS : Nat := 3 * (qF 3 + 6) + 20
theorem stream_ok (x : Src) {c : Nat} (h : x.OK (c + qS)) : FnOK Try.prog fStream [.ptr 0 0] [srcB x] ⟨.str (streamF x).1, [srcB (streamF x).2], [0]⟩ ∧ (streamF x).2.OK c ∧ (streamF x).1.length ≤ 7000 := by
  have hq : qF 3 = 1722 := by decide
  simp only [qS] at h
  have h1 := nextF_ok (n := 4) (c := c + 3 * (qF 3 + 6) + 9) (h.less (by omega)) (by omega)
  have hi : (nextF x 4).1.toNat ≤ 3 := by omega
  have hm := Nat.mul_le_mul_right (qF 3 + 6) hi
  have h2 := strLoop_ok (nextF x 4).1.toNat (nextF x 4).2 [] (c + 9) (h1.1.less (by omega))
  have h3 := chanceF_ok (n := 3) (c := c + 6) (h2.1.less (by omega)) (by omega)
  have h4 := pickF_ok (L := tails) (c := c + 3) (h3.less (by omega)) (by simp [tails])
  have h5 := List.length_nil (α := UInt8)
  refine ⟨?_, ?_⟩
  · refine fnOK_TL (E := EStr) follows named (streamT x) (by simp) ?_
    simp only [WP_cond, T.WP, All, decide_eq_true_eq, decide_eq_false_iff_not, and_true, beq_iff_eq, beq_eq_false_iff_ne, ne_eq, srcOf_mk]
    rintro y rfl
    have hn : (nextF x 4).1 = (((nextF x 4).1.toNat : Nat) : Int) := by omega
    refine ⟨next_ok _ _ (c := c + 3 * (qF 3 + 6) + 9) (h.less (by omega)), ?_⟩
    rintro y rfl
    refine ⟨⟨by rw [stS, ← hn], .loopTo (strm_loop _ _ _ (c + 9) (h1.1.less (by omega)) (by simp; omega))⟩, ?_⟩
    rintro y rfl
    refine ⟨chance_ok _ 3 (c := c + 6) (h2.1.less (by omega)) (by omega), fun hy => ?_, fun hy => ?_⟩
    · rintro y rfl
      refine ⟨pick_ex _ tails true rfl rfl rfl (c := c + 3) (h3.less (by omega)), ?_, ?_⟩
      · have h6 : (pickF (chanceF (strLoop (nextF x 4).1.toNat (nextF x 4).2 []).2 3).2 tails).1.length ≤ 13 := by
          have : ∀ s ∈ tails, s.length ≤ 13 := by decide
          exact this _ h4.2
        have h7 : (pickF (chanceF (strLoop (nextF x 4).1.toNat (nextF x 4).2 []).2 3).2 (strsOf [V.str [91, 49], V.str [123, 34, 97], V.str [91, 34, 120, 92], V.str [91, 91, 91, 91, 91, 91, 91, 91, 91, 91, 91, 91, 91], V.str [91, 34, 93, 34], V.str [110, 117, 108, 108]])).1.length ≤ 13 := h6
        omega
      · have e : streamF x = ((strLoop (nextF x 4).1.toNat (nextF x 4).2 []).1 ++ (pickF (chanceF (strLoop (nextF x 4).1.toNat (nextF x 4).2 []).2 3).2 tails).1, (pickF (chanceF (strLoop (nextF x 4).1.toNat (nextF x 4).2 []).2 3).2 tails).2) := by
          simp only [streamF, hy, if_true]
        rw [e]; exact ⟨rfl, rfl, by simp⟩
    · have e : streamF x = ((strLoop (nextF x 4).1.toNat (nextF x 4).2 []).1, (chanceF (strLoop (nextF x 4).1.toNat (nextF x 4).2 []).2 3).2) := by
        simp only [streamF, hy, Bool.false_eq_true, if_false]
      rw [e]; exact ⟨rfl, rfl, by simp⟩
  · unfold streamF
    simp only
    have h6 : (pickF (chanceF (strLoop (nextF x 4).1.toNat (nextF x 4).2 []).2 3).2 tails).1.length ≤ 13 := by
      have : ∀ s ∈ tails, s.length ≤ 13 := by decide
      exact this _ h4.2
    split
    · exact ⟨h4.1.less (by omega), by simp only [List.length_append]; omega⟩
    · exact ⟨h3.less (by omega), by simp only; omega⟩

abbrev fSource : Nat := 32
def srcNew (l : List UInt8) : Src := ⟨l, 0, (l.length % 1000 : Nat)⟩
set_option maxRecDepth 100000 in
theorem sourceT (l : List UInt8) : fnT E0 1 fSource [sls encByte l] [] =
  T.need [(1000 : Int) ≠ (0 : Int)]
    (T.done (Ret.mk (V.ptr 0 0) [some ([V.dsl (List.length l) false (encs encByte l), V.int IntKind.i64 (0 : Int), V.int IntKind.i64 (Int.tmod (↑(List.length l) : Int) (1000 : Int))], 59)] [])) := (T.force_eq _).symm.trans (by kernel_rfl)

theorem source_ok (l : List UInt8) : FnOK Try.prog fSource [sls encByte l] [] ⟨.ptr 0 0, [srcB (srcNew l)], []⟩ := by
  refine fnOK_TL (E := E0) follows named (sourceT l) (by simp) ?_
  simp only [WP_cond, T.WP, All, decide_eq_true_eq, decide_eq_false_iff_not, and_true, beq_iff_eq, beq_eq_false_iff_ne, ne_eq]
  refine ⟨by omega, rfl, ?_, by simp⟩
  have e : ((l.length : Int)).tmod 1000 = ((l.length % 1000 : Nat) : Int) := by
    rw [Int.tmod_eq_emod_of_nonneg (by omega)]; omega
  rw [e]; rfl
theorem srcNew_ok (l : List UInt8) (h : l.length ≤ 1048576) : (srcNew l).OK 1000000 := ⟨h, by simp [srcNew], by simp only [srcNew]; omega, by simp only [srcNew]; omega⟩

abbrev fStreamOf : Nat := 24
noncomputable def resSrc : ResT := fun f vs hp => match vs, hp with
  | [.dsl _ _ cs], [] => bif Nat.beq f fSource then some ⟨srcNew (decL encByte cs), fun y => ⟨.ptr 0 0, [srcB y], []⟩⟩ else none
  | [.ptr 0 0], [some ([.dsl _ _ cs, .int _ k, .int _ s], _)] => bif Nat.beq f fStream then some ⟨streamF (srcOf cs k s), fun y => ⟨.str y.1, [srcB y.2], [0]⟩⟩ else none
  | _, _ => none
noncomputable def ESo : Env := { P := Try.prog, vw := vwA, res := resSrc }
set_option maxRecDepth 100000 in
theorem streamOfT (l : List UInt8) : fnT ESo 0 fStreamOf [sls encByte l] [] =
  T.bind (srcNew (decL encByte (encs encByte l))) fun y0 =>
    T.need [FnOK (Env.P ESo) 32 [V.dsl (List.length l) false (encs encByte l)] [] (Ret.mk (V.ptr 0 0) [srcB y0] [])]
      (T.bind (streamF (srcOf (encs encByte (Src.l y0)) (↑(Src.k y0) : Int) (Src.s y0))) fun y1 =>
        T.need [FnOK (Env.P ESo) 33 [V.ptr 0 0] [srcB y0] (Ret.mk (V.str (Prod.fst y1)) [srcB (Prod.snd y1)] [0])] (T.done (Ret.mk (V.str (Prod.fst y1)) [] []))) := (T.force_eq _).symm.trans (by kernel_rfl)
theorem streamOf_ok (l : List UInt8) (h : l.length ≤ 1048576) : FnOK Try.prog fStreamOf [sls encByte l] [] ⟨.str (streamF (srcNew l)).1, [], []⟩ ∧ (streamF (srcNew l)).1.length ≤ 7000 := by
  have hq : qF 3 = 1722 := by decide
  have hqs : qS = 5204 := by
    unfold qS; rw [hq]
  have hs : 0 + qS ≤ 1000000 := by rw [hqs]; decide
  have h0 : (srcNew l).OK (0 + qS) := Src.OK.less (srcNew_ok l h) hs
  have h1 := stream_ok (srcNew l) (c := 0) h0
  refine ⟨?_, h1.2.2⟩
  refine fnOK_TL (E := ESo) follows named (streamOfT l) (by simp) ?_
  simp only [WP_cond, T.WP, All, decide_eq_true_eq, decide_eq_false_iff_not, and_true, beq_iff_eq, beq_eq_false_iff_ne, ne_eq, layByte.decL, srcOf_mk]
  rintro y rfl
  refine ⟨source_ok l, ?_⟩
  rintro y rfl
  exact ⟨h1.1, ⟨rfl, rfl, by simp⟩⟩

end Go.Proofs.Ytopebociobgmhaa

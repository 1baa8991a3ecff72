/-
  The law FnFrames: it returns true, whatever the two slices of bytes hold.
-/
import Derived.Test.YtopebociobgmhaaRu
namespace Go.Proofs.Ytopebociobgmhaa
open Go.RowKit

theorem give1 {f : FuncId} {t : List UInt8} {v : V} (h : FnOK Try.prog f [sls encStr [t]] [] ⟨v, [], []⟩) : FnOK Try.prog f [.sl 0 0 1 true] [some ([.str t], 9)] ⟨v, [none], [0]⟩ :=
  FnOK.give (cs := [.str t]) rfl rfl h
theorem give3 {f : FuncId} {a b c : List UInt8} {v : V} (h : FnOK Try.prog f [sls encStr [a, b, c]] [] ⟨v, [], []⟩) : FnOK Try.prog f [.sl 0 0 3 true] [some ([.str a, .str b, .str c], 9)] ⟨v, [none], [0]⟩ :=
  FnOK.give (cs := [.str a, .str b, .str c]) rfl rfl h
theorem iFed_ok {f : Fr.F} (hf : GF f) (t : List UInt8) (ht : t.length ≤ 65536) (ho : okF f = true) : FnOK Try.prog fFeed [.agg (vwF f), .str t] [] ⟨.tup [.agg (vwF (fedF f t).f), sls encStr (fedF f t).out, .int .i64 (bif f.closed then 17 else 0)], [], []⟩ := by
  have h := iFeed_ok hf t ht ho
  unfold fedF
  cases hc : f.closed
  · rw [hc] at h; exact h
  · rw [hc] at h; exact h

theorem law_ok (a b : List UInt8) : FnOK Try.prog fLaw [sls encByte a, sls encByte b] [] ⟨.bool true, [], []⟩ := by
  refine fnOK_TL (E := ELaw) follows named (lawT a b) (by simp) ?_
  simp only [WP_cond, T.WP, All, decide_eq_true_eq, decide_eq_false_iff_not, and_true, beq_iff_eq, beq_eq_false_iff_ne, ne_eq, layByte.decL]
  refine ⟨fun _ => ⟨rfl, rfl, by simp⟩, fun ha => ⟨fun _ => ⟨rfl, rfl, by simp⟩, fun hb => ?_⟩⟩
  have hl := streamOf_ok a (by omega)
  generalize (streamF (srcNew a)).1 = t at hl
  obtain ⟨hs, hl⟩ := hl
  rintro t rfl
  have w1 : IntKind.i64.wrap ((t.length : Int) + 1) = (t.length : Int) + 1 := wrap_id (by omega)
  rw [w1]
  have b1 := atF_bd b 0 (n := (t.length : Int) + 1) (by omega)
  have o1 := at_ok b 0 (by omega) ((t.length : Int) + 1) (by omega)
  refine ⟨hs, ?_⟩
  generalize atF b 0 ((t.length : Int) + 1) = y1 at *
  rintro y1 rfl
  refine ⟨o1, ?_⟩
  rw [wrap_id (n := (t.length : Int) - y1) (by omega), wrap_id (n := (t.length : Int) - y1 + 1) (by omega)]
  have b2 := atF_bd b 1 (n := (t.length : Int) - y1 + 1) (by omega)
  have o2 := at_ok b 1 (by omega) ((t.length : Int) - y1 + 1) (by omega)
  generalize atF b 1 ((t.length : Int) - y1 + 1) = y2 at *
  rintro y2 rfl
  refine ⟨o2, ?_⟩
  rw [wrap_id (n := y1 + y2) (by omega)]
  obtain ⟨i, rfl⟩ : ∃ i : Nat, y1 = i := ⟨y1.toNat, by omega⟩
  obtain ⟨k, rfl⟩ : ∃ k : Nat, y2 = k := ⟨y2.toNat, by omega⟩
  rw [show (i : Int) + (k : Int) = ((i + k : Nat) : Int) by omega]
  simp only [Int.toNat_natCast, List.drop_zero]
  have hi : i ≤ t.length := by omega
  have hk : i + k ≤ t.length := by omega
  have e2 : t.take i ++ (t.take t.length).drop i = t := by rw [List.take_length, List.take_append_drop]
  have e3 : t.take i ++ ((t.take (i + k)).drop i ++ (t.take t.length).drop (i + k)) = t := by
    rw [List.take_length, ← List.append_assoc]
    have : t.take i ++ (t.take (i + k)).drop i = t.take (i + k) := by
      rw [show t.take i = (t.take (i + k)).take i by rw [List.take_take]; congr 1; omega, List.take_append_drop]
    rw [this, List.take_append_drop]
  have l1 : (t.take i).length ≤ 65536 := by rw [List.length_take]; omega
  have l2 : ((t.take t.length).drop i).length ≤ 65536 := by rw [List.length_drop, List.take_length]; omega
  generalize (t.take t.length).drop i = p2 at *
  generalize hp1 : (t.take (i + k)).drop i = p3 at *
  generalize hp2 : (t.take t.length).drop (i + k) = p4 at *
  generalize t.take i = p1 at *
  have l3 : p3.length ≤ 65536 := by rw [← hp1, List.length_drop, List.length_take]; omega
  have l4 : p4.length ≤ 65536 := by rw [← hp2, List.length_drop, List.take_length]; omega
  have hS : sAll [t] ⟨Fr.F.zero, []⟩ = Fr.sFeed Fr.F.zero t := sAll_one t
  have hS3 : sAll [p1, p3, p4] ⟨Fr.F.zero, []⟩ = Fr.sFeed Fr.F.zero t := by rw [sAll_three, e3]
  have q1 := iAll_ok [t] (by simp; omega) (by simp)
  have q2 := sall_ok [t] (by simp; omega) (by simp)
  have q3 := iAll_ok [p1, p3, p4] (by simp; omega) (by simp)
  rw [hS] at q1 q2
  rw [hS3] at q3
  have hap := sFeed_append Fr.F.zero p1 p2
  rw [e2] at hap
  have g1 := GF.zero.feed p1
  have f1 := iFed_ok GF.zero p1 l1 (okF_feed [])
  have f2 := iFed_ok g1 p2 l2 (okF_feed p1)
  rw [fedF_eq] at f1 f2
  have hok := okF_feed t
  have hfo := framerOK_ok (Fr.sFeed Fr.F.zero t).f (by have := (GF.zero.feed t).bufb; omega)
  have hft := frameText_ok t (by omega)
  have hlen := sFeed_out Fr.F.zero t
  have sm := same_ok (Fr.sFeed Fr.F.zero t).out (by omega)
  rintro _ rfl
  rw [show (Fr.F.mk [] 0 false false false) = Fr.F.zero from rfl, hS]
  refine ⟨give1 q1, ?_⟩
  rintro _ rfl
  refine ⟨give1 q2, by omega, ⟨by omega, by omega⟩, by omega, ?_⟩
  rw [hS3]
  rintro _ rfl
  refine ⟨give3 q3, ?_⟩
  rintro _ rfl
  refine ⟨hft, ?_⟩
  simp only [beq_self_eq_true, Bool.true_and, Bool.and_true, Bool.not_true, Bool.false_eq_true, false_implies, true_implies, true_and, bne_self_eq_false, fedF_eq, reduceCtorEq]
  intro _
  refine ⟨sm, ?_⟩
  intro _
  refine ⟨sm, ?_⟩
  rintro _ rfl
  refine ⟨hfo, fun h => ?_, fun _ => ⟨by omega, ?_⟩⟩
  · have h : okF (Fr.sFeed Fr.F.zero t).f = false := by simpa using h
    rw [hok] at h; cases h
  rintro _ rfl
  refine ⟨f1, by omega, ?_⟩
  have eta : ∀ x : Fr.F, Fr.F.mk x.buf x.depth x.quote x.skip x.closed = x := fun _ => rfl
  simp only [eta]
  rintro _ rfl
  refine ⟨f2, fun hc => ?_, fun hc => ?_⟩
  · have hx : Fr.sFeed (Fr.sFeed Fr.F.zero p1).f p2 = ⟨(Fr.sFeed Fr.F.zero p1).f, []⟩ := sFold_closed p2 ⟨(Fr.sFeed Fr.F.zero p1).f, []⟩ hc
    rw [hx, List.append_nil] at hap
    rw [hap] at sm ⊢
    rw [hc]
    exact ⟨fun _ _ => ⟨sm, ⟨rfl, rfl, by simp⟩⟩, fun h => absurd rfl h⟩
  · have hlen2 : (Fr.sFeed Fr.F.zero t).out.length = (Fr.sFeed Fr.F.zero p1).out.length + (Fr.sFeed (Fr.sFeed Fr.F.zero p1).f p2).out.length := by rw [hap]; simp
    have hf : (Fr.sFeed Fr.F.zero t).f = (Fr.sFeed (Fr.sFeed Fr.F.zero p1).f p2).f := by rw [hap]
    rw [hc, hf, wrap_id (by omega)]
    refine ⟨fun _ => ⟨fun _ => ⟨?_, rfl, by simp⟩, fun h => ?_⟩, fun h => absurd rfl h⟩
    · show V.bool _ = V.bool true
      rw [hlen2]; simp
    · simp at h

end Go.Proofs.Ytopebociobgmhaa

/-
  Contracts of the two FeedAll.
-/
import Derived.Test.YtopebociobgmhaaL
import Derived.Deep.RegionWith
namespace Go.Proofs.Ytopebociobgmhaa
open Go.RowKit

namespace Fr
structure AS where
  f : F
  out : List (List UInt8)
def sOne (s : AS) (t : ByteArray) : AS := ⟨(t.data.toList.foldl sStep ⟨s.f, []⟩).f, s.out ++ (t.data.toList.foldl sStep ⟨s.f, []⟩).out⟩
def iOne (s : AS) (t : ByteArray) : AS := ⟨(iFeed s.f t.data.toList).done, s.out ++ (iFeed s.f t.data.toList).out⟩
def F.good (f : F) : Prop := f.ok ∧ (f.closed = true → f = F.shut)
theorem zero_good : F.zero.good := ⟨F.zero_ok, by simp [F.zero]⟩
theorem one_alike (s : AS) (t : ByteArray) (h : s.f.good) : sOne s t = iOne s t ∧ (iOne s t).f.good := by
  have ha := feed_alike s.f t.data.toList h.1 h.2
  unfold sOne iOne
  rw [show t.data.toList.foldl sStep ⟨s.f, []⟩ = ⟨(iFeed s.f t.data.toList).done, (iFeed s.f t.data.toList).out⟩ from ha.1]
  exact ⟨rfl, F.done_ok _ ha.2⟩
theorem all_alike (l : List ByteArray) : ∀ s : AS, s.f.good → l.foldl sOne s = l.foldl iOne s ∧ (l.foldl iOne s).f.good := by
  induction l with
  | nil => exact fun s h => ⟨rfl, h⟩
  | cons t l ih =>
    intro s h
    have h1 := one_alike s t h
    simp only [List.foldl_cons, h1.1]
    exact ih _ h1.2
theorem iStep_len (s : IS) (b : UInt8) : (iStep s b).out.length ≤ s.out.length + 1 := by
  unfold iStep
  repeat' split
  all_goals simp
theorem iFold_len (t : List UInt8) : ∀ s : IS, (t.foldl iStep s).out.length ≤ s.out.length + t.length := by
  induction t with
  | nil => intro s; simp
  | cons b t ih =>
    intro s
    have h1 := ih (iStep s b)
    have h2 := iStep_len s b
    simp only [List.foldl_cons, List.length_cons]
    omega
theorem iAll_len (l : List ByteArray) : ∀ s : AS, (l.foldl iOne s).out.length ≤ s.out.length + sumT l := by
  induction l with
  | nil => intro s; simp
  | cons t l ih =>
    intro s
    have h1 := ih (iOne s t)
    have h2 : (iOne s t).out.length ≤ s.out.length + t.size := by
      have := iFold_len t.data.toList ⟨⟨s.f.depth, s.f.quote, s.f.skip, s.f.closed⟩, s.f.buf, []⟩
      have hl : t.data.toList.length = t.size := by simp
      simp only [iOne, List.length_append, iFeed, List.length_nil, Nat.zero_add, hl] at this ⊢
      omega
    have h3 : sumT (t :: l) = t.size + sumT l := by simp [sumT]
    simp only [List.foldl_cons]
    omega
end Fr

theorem sv_len (l : List (List UInt8)) : (sv l).length = l.length := by simp [sv]
theorem sv_app (l m : List (List UInt8)) : sv (l ++ m) = sv l ++ sv m := by simp [sv]
theorem sv_one (l : List (List UInt8)) : ∀ u ∈ sv l, u.oneCell' = true := by
  intro u hu
  simp only [sv, List.mem_map] at hu
  obtain ⟨x, _, rfl⟩ := hu
  rfl

set_option maxRecDepth 100000 in
set_option maxHeartbeats 400000 in
theorem sFeedAll_long (a : Option Addr) (c n : Nat) (w : World) (h : 4096 < n) (hn : n ≤ 1048576) :
    Calls Try.prog 15 #[.slice a n c] w fun e w' => ∃ g, e = .returned (.tuple #[fv Fr.F.zero, .slice (some ⟨g, 0, none⟩) 0 0, .int .i64 2]) ∧ w.grownBy w' none := by
  go_enter Try.func15, Try.ntmps15
  go_wp2_with fail
  exact bodyPost_ret (v := .tuple #[fv Fr.F.zero, .slice (some ⟨w.heap.size + 1, 0, none⟩) 0 0, .int .i64 2]) (by simp [results, Try.results15, go_sem, fv, Fr.F.zero]) rfl ⟨_, rfl, grown_alloc (grown_alloc (grown_refl _ _) _) _⟩

structure ASt (w0 : World) (g2 g5 : Nat) (s : Fr.AS) (vo : Value) (wr : World) : Prop where
  fr : FAt wr g5 s.f
  res : FAt wr g2 Fr.F.zero
  out : Own wr w0.heap.size 9 1 vo s.out.length (sv s.out)
  grown : w0.grownBy wr none

def ASInv (w0 : World) (g2 g5 : Nat) (ss : List ByteArray) (vo vi : Value) (wr : World) : Prop :=
  ∃ k : Nat, k ≤ ss.length ∧ vi = .int .i64 k ∧ ASt w0 g2 g5 ((ss.take k).foldl Fr.sOne ⟨Fr.F.zero, []⟩) vo wr

theorem aall_next (ss : List ByteArray) (k : Nat) (h : k < ss.length) (f0 : Fr.AS) : (ss.take (k + 1)).foldl Fr.sOne f0 = Fr.sOne ((ss.take k).foldl Fr.sOne f0) ss[k] := by
  rw [List.take_succ_eq_append_getElem h, List.foldl_append]; rfl

theorem fa_a {wr w1 : World} {a1 : Option Addr} {n c lo : Nat} {xs : List Value} (f : Fr.F) (hg : wr.grownBy w1 none) (ho : Own w1 lo 9 1 (.slice a1 n c) n xs) (hlo : wr.heap.size ≤ lo) :
    ∃ gx, Value.pointer (some ⟨w1.heap.size, 0, none⟩) = Value.pointer (some ⟨gx, 0, none⟩) ∧
      FAt (w1.alloc (.cells #[.string ⟨f.buf.toArray⟩, .int .i64 f.depth, .bool f.quote, .bool f.skip, .bool f.closed] 29)) gx f ∧
      (∃ a9 c9, Value.slice a1 n c = .slice a9 n c9 ∧ (∀ ad, a9 = some ad → wr.heap.size ≤ ad.block) ∧ Lies (w1.alloc (.cells #[.string ⟨f.buf.toArray⟩, .int .i64 f.depth, .bool f.quote, .bool f.skip, .bool f.closed] 29)) a9 xs) ∧
      wr.grownBy (w1.alloc (.cells #[.string ⟨f.buf.toArray⟩, .int .i64 f.depth, .bool f.quote, .bool f.skip, .bool f.closed] 29)) none :=
  ⟨_, rfl, FAt.new _ _, ⟨a1, c, rfl, fun ad e => by subst e; exact Nat.le_trans hlo (ho.lt ad.block rfl).1, (ho.alloc _).lies_⟩, grown_alloc hg _⟩

theorem fa_b {wr w1 : World} {a1 : Option Addr} {n c lo : Nat} {xs : List Value} {z : ByteArray} {d : Int} {b1 b2 b3 : Bool} (f : Fr.F) (hf : FrAt w1 wr.heap.size z ⟨d, b1, b2, b3⟩ ∧ wr.grownBy w1 none)
    (ho : Own w1 lo 9 1 (.slice a1 n c) n xs) (hlo : wr.heap.size ≤ lo) :
    ∃ gx, Value.pointer (some ⟨wr.heap.size, 0, none⟩) = Value.pointer (some ⟨gx, 0, none⟩) ∧
      FAt (((((w1.setCell ⟨wr.heap.size, 0, none⟩ (.string ⟨f.buf.toArray⟩)).setCell ⟨wr.heap.size, 1, none⟩ (.int .i64 f.depth)).setCell ⟨wr.heap.size, 2, none⟩ (.bool f.quote)).setCell ⟨wr.heap.size, 3, none⟩ (.bool f.skip)).setCell ⟨wr.heap.size, 4, none⟩ (.bool f.closed)) gx f ∧
      (∃ a9 c9, Value.slice a1 n c = .slice a9 n c9 ∧ (∀ ad, a9 = some ad → wr.heap.size ≤ ad.block) ∧ Lies (((((w1.setCell ⟨wr.heap.size, 0, none⟩ (.string ⟨f.buf.toArray⟩)).setCell ⟨wr.heap.size, 1, none⟩ (.int .i64 f.depth)).setCell ⟨wr.heap.size, 2, none⟩ (.bool f.quote)).setCell ⟨wr.heap.size, 3, none⟩ (.bool f.skip)).setCell ⟨wr.heap.size, 4, none⟩ (.bool f.closed)) a9 xs) ∧
      wr.grownBy (((((w1.setCell ⟨wr.heap.size, 0, none⟩ (.string ⟨f.buf.toArray⟩)).setCell ⟨wr.heap.size, 1, none⟩ (.int .i64 f.depth)).setCell ⟨wr.heap.size, 2, none⟩ (.bool f.quote)).setCell ⟨wr.heap.size, 3, none⟩ (.bool f.skip)).setCell ⟨wr.heap.size, 4, none⟩ (.bool f.closed)) none := by
  have h5 := set5_grown w1 wr.heap.size (.string ⟨f.buf.toArray⟩) (.int .i64 f.depth) (.bool f.quote) (.bool f.skip) (.bool f.closed)
  refine ⟨_, rfl, set5 f hf.1, ⟨a1, c, rfl, fun ad e => by subst e; exact Nat.le_trans hlo (ho.lt ad.block rfl).1, (ho.grown h5 (.inr (ho.ne_row hf.1.row_ (by decide)))).lies_⟩, grown_trans hf.2 h5 ?_⟩
  intro g e hlt
  injection e with e
  omega

set_option maxRecDepth 100000 in
set_option maxHeartbeats 1000000 in
theorem sFeedAll_any (a : Option Addr) (c : Nat) (ss : List ByteArray) (w : World) (hl : Lies w a (tv ss)) (hn : ss.length ≤ 4096) (hs : sumT ss ≤ 1048576) (b0 : List UInt8) (d0 : Int) (q0 s0 c0 : Bool) (out0 : List (List UInt8))
    (hall : ss.foldl Fr.sOne ⟨Fr.F.zero, []⟩ = ⟨⟨b0, d0, q0, s0, c0⟩, out0⟩) :
    Calls Try.prog 15 #[.slice a ss.length c] w fun e w' => ∃ a' c', e = .returned (.tuple #[fv ⟨b0, d0, q0, s0, c0⟩, .slice a' out0.length c', .int .i64 0]) ∧
      Own w' w.heap.size 9 1 (.slice a' out0.length c') out0.length (sv out0) ∧ w.grownBy w' none := by
  have HLi := Lib.hid hl
  have HALL := Lib.hid hall
  have HSS := Lib.hid hs
  clear hl hall hs
  go_enter Try.func15, Try.ntmps15
  go_wp2_with fail
  go_loopw [6, 7] (fun vo vi wr => ASInv w w.heap.size (w.heap.size + 1) ss vo vi wr) (fun _ vi _ => ss.length - (intOf vi).toNat)
  case atStart =>
    refine ⟨0, Nat.zero_le _, rfl, ⟨?_, ?_, ?_, grown_alloc (grown_alloc (grown_alloc (grown_refl _ _) _) _) _⟩⟩
    · exact FrAt.grown_ (row := none) (two_new w _ _) (grown_alloc (grown_refl _ _) _) (by simp)
    · exact FrAt.grown_ (row := none) (FAt.new w Fr.F.zero) (grown_alloc (grown_alloc (grown_refl _ _) _) _) (by simp)
    · exact Own.made_ _ 0 #[] (by simp; omega) (by simp) (by simp [maxLen]) rfl
  case round =>
    obtain ⟨k, hk, rfl, hst⟩ := hrel
    generalize hs1 : (ss.take k).foldl Fr.sOne ⟨Fr.F.zero, []⟩ = st at hst
    obtain ⟨⟨buf, d, q, sk, cl⟩, out⟩ := st
    have HS1 := Lib.hid hs1
    clear hs1
    obtain ⟨hfr, hres, hout, hgr⟩ := hst
    have x0 := hfr.cell0
    have x1 := hfr.cell1
    have x2 := hfr.cell2
    have x3 := hfr.cell3
    have x4 := hfr.cell4
    have HFr := Lib.hid hfr
    have HR := Lib.hid hres
    have HO := Lib.hid hout
    have HG := Lib.hid hgr
    clear hfr hres hout hgr
    by_cases hlt : k < ss.length
    · obtain ⟨⟨⟨b', d', q', s', c'⟩, outs⟩, hsb⟩ : ∃ x, ss[k].data.toList.foldl Fr.sStep ⟨⟨buf, d, q, sk, cl⟩, []⟩ = x := ⟨_, rfl⟩
      have HSB := Lib.hid hsb
      have hgood := (Fr.all_alike (ss.take k) ⟨Fr.F.zero, []⟩ Fr.zero_good)
      rw [← hgood.1, HS1.out] at hgood
      have HOK := Lib.hid hgood.2.1
      have HSZ := Lib.hid (show ss[k].size ≤ 1048576 from by
        have h1 := sumT_take ss k hlt
        have h2 := sumT_mono ss (k + 1)
        have h3 := HSS.out
        omega)
      obtain ⟨b1, o1, rfl, hb1, hc1⟩ := HLi.out.at_ (by rw [tv_len]; omega)
      have hcell1 : wr.cell? ⟨b1, o1 + k, none⟩ = some (.string ss[k]) := HG.out.cell (hc1 k _ (tv_at ss k hlt)) (by simp)
      have hlt2 : (k : Int) < (ss.length : Int) := by omega
      have hge : (0 : Int) ≤ (k : Int) := by omega
      clear hsb hgood hc1
      go_upto_region 8 with fail
      go_cut [8, 9] (fun s8 s9 wx => ∃ gx : Nat, s8 = .pointer (some ⟨gx, 0, none⟩) ∧ FAt wx gx ⟨b', d', q', s', c'⟩ ∧ (∃ a9 c9, s9 = .slice a9 outs.length c9 ∧ (∀ ad, a9 = some ad → wr.heap.size ≤ ad.block) ∧ Lies wx a9 (sv outs)) ∧ wr.grownBy wx none)
      case first =>
        have y0 := fun o => cell_alloc_of x0 o
        have y1 := fun o => cell_alloc_of x1 o
        have y2 := fun o => cell_alloc_of x2 o
        have y3 := fun o => cell_alloc_of x3 o
        have y4 := fun o => cell_alloc_of x4 o
        have y5 := fun o => cell_alloc_of hcell1 o
        have hlt0 : w.heap.size + 1 < wr.heap.size := World.block_lt_of_cell? wr _ x0
        go_region_with (first | (go_at_call 27; refine (l02Feed_as ⟨buf, d, q, sk, cl⟩ ss[k] _ HSZ.out HOK.out b' d' q' s' c' outs HSB.out).mono ?_; rintro e1 w1 ⟨a1, cp1, rfl, ho1, hg1⟩; obtain ⟨hbc, hbf⟩ := bcell (grown_below hg1); have HO1 := Lib.hid ho1; first | have HB := Lib.hid (arm_b (wr := wr) (Below.undrew (grown_below hg1))) | have HA := Lib.hid (arm_a (wr := wr) (Below.undrew (grown_below hg1))); clear ho1 hg1))
        all_goals (clear y0 y1 y2 y3 y4 y5 hbc hbf; go_wp2_with fail; go_meet)
        all_goals first | (have h := HA.out; exact fa_a ⟨b', d', q', s', c'⟩ h HO1.out (by first | exact Nat.le_refl _ | simp)) | (have h := HB.out; exact fa_b ⟨b', d', q', s', c'⟩ h HO1.out (by first | exact Nat.le_refl _ | simp))
      case rest =>
        obtain ⟨gx, rfl, hx, ⟨a9, c9, rfl, hb9, hl9⟩, hgx⟩ := hcut
        have HX := Lib.hid hx
        have HF2 := Lib.hid (HFr.out.grown_ hgx (by simp))
        have HR2 := Lib.hid (HR.out.grown_ hgx (by simp))
        have HO2 := Lib.hid (HO.out.grown hgx (by cases u6.ownBlock <;> simp))
        have HG2 := Lib.hid (grown_trans HG.out hgx (by simp))
        have HL9 := Lib.hid hl9
        have hlt0 : w.heap.size + 1 < wr.heap.size := World.block_lt_of_cell? wr _ x0
        have HB9 := Lib.hid (show ∀ ad, a9 = some ad → some (w.heap.size + 1) ≠ some ad.block from fun ad e => by have := hb9 ad e; simp; omega)
        clear hb9
        clear x0 x1 x2 x3 x4 hx hgx hl9
        go_upto_region 9 with fail
        go_cut [8] (fun s8 wx => FAt wx (w.heap.size + 1) ⟨b', d', q', s', c'⟩ ∧ wc.grownBy wx (some (w.heap.size + 1)))
        case first =>
          have hxa := HX.out.all
          have hfa := HF2.out.all
          go_wp2_with fail
          go_meet
          exact ⟨set5 ⟨b', d', q', s', c'⟩ HF2.out, set5_grown _ _ _ _ _ _ _⟩
        case rest =>
          obtain ⟨hf3, hw3⟩ := hcut
          have HF3 := Lib.hid hf3
          have HW3 := Lib.hid hw3
          have HR3 := Lib.hid (FrAt.grown_ HR2.out hw3 (by simp))
          have HO3 := Lib.hid (HO2.out.grown hw3 (.inr (HO2.out.ne_row HF2.out.row_ (by decide))))
          have HG3 := Lib.hid (grown_trans HG2.out hw3 (by intro g e hlt; injection e with e; omega))
          have HL3 := Lib.hid (HL9.out.grown hw3 HB9.out)
          have HSTEP := Lib.hid (show Fr.sOne ⟨⟨buf, d, q, sk, cl⟩, out⟩ ss[k] = ⟨⟨b', d', q', s', c'⟩, out ++ outs⟩ from by unfold Fr.sOne; rw [HSB.out])
          have HNX := Lib.hid (aall_next ss k hlt ⟨Fr.F.zero, []⟩)
          rw [HS1.out] at HNX
          have hnn : out.length + outs.length ≤ 1048576 := by
            have h1 := (Fr.all_alike (ss.take (k + 1)) ⟨Fr.F.zero, []⟩ Fr.zero_good).1
            have h2 := Fr.iAll_len (ss.take (k + 1)) ⟨Fr.F.zero, []⟩
            rw [← h1, HNX.out, HSTEP.out] at h2
            have h3 := sumT_mono ss (k + 1)
            have h4 := HSS.out
            simp only [List.length_append, List.length_nil] at h2
            omega
          have HN := Lib.hid (show out.length + outs.length ≤ maxLen ∧ (out.length + outs.length) * 16 ≤ 140737488355328 from by simp only [maxLen]; omega)
          clear hf3 hw3 hnn
          go_wp2_with (at_builtin; go_must (refine wpList_app rfl (.tmp 33) (.tmp 34) 32 rfl el_texts rfl HO3.out rfl (by rw [sv_len, Nat.mul_one]) HL3.out (sv_one _) HN.out.1 HN.out.2 HG3.out.size ?_; intro v4 w4 ho4 hg4 _; have HO4 := Lib.hid ho4; have HG4 := Lib.hid hg4; clear ho4 hg4))
          go_roundw
          case rel => exact ⟨k + 1, by omega, by go_num, by rw [HNX.out, HSTEP.out]; exact ⟨HF3.out.grown_ HG4.out (HO3.out.ne_row HF3.out.row_ (by decide)).symm, HR3.out.grown_ HG4.out (HO3.out.ne_row HR3.out.row_ (by decide)).symm, by simpa [sv_app] using HO4.out, grown_trans HG3.out HG4.out (HO3.out.no_old w.heap.size (Nat.le_refl _))⟩⟩
          case measure => simp [intOf]; omega
    · have hke : k = ss.length := by omega
      have HE := Lib.hid (show (⟨⟨buf, d, q, sk, cl⟩, out⟩ : Fr.AS) = ⟨⟨b0, d0, q0, s0, c0⟩, out0⟩ from by
        rw [← HS1.out, ← HALL.out, hke, List.take_length])
      have hra := HR.out.all
      clear hke
      go_wp2_with fail
      obtain ⟨a6, c6, h6⟩ := HO.out.form
      have H6 := Lib.hid h6
      obtain ⟨e1, e2⟩ := Fr.AS.mk.inj HE.out
      obtain ⟨rfl, rfl, rfl, rfl, rfl⟩ := Fr.F.mk.inj e1
      subst e2
      refine bodyPost_ret (v := .tuple #[fv ⟨buf, d, q, sk, cl⟩, u6, .int .i64 0]) (by simp [results, Try.results15, go_sem, fv, *]) rfl ⟨a6, c6, by rw [← h6], ?_, ?_⟩
      · rw [← h6]
        exact HO.out.grown (set5_grown _ _ _ _ _ _ _) (.inr (HO.out.ne_row HR.out.row_ (by decide)))
      · exact grown_trans HG.out (set5_grown _ _ _ _ _ _ _) (by intro g e hlt; injection e with e; omega)

end Go.Proofs.Ytopebociobgmhaa

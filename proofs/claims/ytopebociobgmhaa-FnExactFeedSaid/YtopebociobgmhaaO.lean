/-
  Contract of the program's FeedAll.
-/
import Derived.Test.YtopebociobgmhaaN
namespace Go.Proofs.Ytopebociobgmhaa
open Go.RowKit

theorem isList_any (a : Option Addr) (n c : Nat) (w : World) :
    Calls Try.prog 30 #[.slice a n c] w fun e w' => e = .returned (.bool (decide ((n : Int) ≤ 4096))) ∧ w = w' := by
  go_enter Try.func30, Try.ntmps30
  go_wp2
  go_ret
  exact ⟨rfl, rfl⟩

set_option maxRecDepth 100000 in
set_option maxHeartbeats 400000 in
theorem iFeedAll_long (a : Option Addr) (c n : Nat) (w : World) (h : 4096 < n) (hn : n ≤ 1048576) :
    Calls Try.prog 17 #[.slice a n c] w fun e w' => e = .returned (.tuple #[fv Fr.F.zero, .slice none 0 0, .int .i64 2]) ∧ w.grownBy w' none := by
  have hb : decide ((n : Int) ≤ 4096) = false := by simp; omega
  go_enter Try.func17, Try.ntmps17
  go_wp2_with (go_at_call 30; refine (isList_any _ _ _ _).mono ?_; rintro e1 w1 ⟨rfl, rfl⟩)
  exact bodyPost_ret (v := .tuple #[fv Fr.F.zero, .slice none 0 0, .int .i64 2]) (by simp [results, Try.results17, go_sem, fv, Fr.F.zero]) rfl ⟨rfl, grown_alloc (grown_refl _ _) _⟩

def IAInv (w0 : World) (g2 g5 : Nat) (ss : List ByteArray) (vo vi : Value) (wr : World) : Prop :=
  ∃ k : Nat, k ≤ ss.length ∧ vi = .int .i64 k ∧ ASt w0 g2 g5 ((ss.take k).foldl Fr.iOne ⟨Fr.F.zero, []⟩) vo wr

theorem iall_next (ss : List ByteArray) (k : Nat) (h : k < ss.length) (f0 : Fr.AS) : (ss.take (k + 1)).foldl Fr.iOne f0 = Fr.iOne ((ss.take k).foldl Fr.iOne f0) ss[k] := by
  rw [List.take_succ_eq_append_getElem h, List.foldl_append]; rfl

set_option maxRecDepth 100000 in
set_option maxHeartbeats 1000000 in
theorem iFeedAll_any (a : Option Addr) (c : Nat) (ss : List ByteArray) (w : World) (hl : Lies w a (tv ss)) (hn : ss.length ≤ 4096) (hs : sumT ss ≤ 1048576) (b0 : List UInt8) (d0 : Int) (q0 s0 c0 : Bool) (out0 : List (List UInt8))
    (hall : ss.foldl Fr.iOne ⟨Fr.F.zero, []⟩ = ⟨⟨b0, d0, q0, s0, c0⟩, out0⟩) :
    Calls Try.prog 17 #[.slice a ss.length c] w fun e w' => ∃ a' c', e = .returned (.tuple #[fv ⟨b0, d0, q0, s0, c0⟩, .slice a' out0.length c', .int .i64 0]) ∧
      Own w' w.heap.size 9 1 (.slice a' out0.length c') out0.length (sv out0) ∧ w.grownBy w' none := by
  have HLi := Lib.hid hl
  have HALL := Lib.hid hall
  have HSS := Lib.hid hs
  have hb : decide ((ss.length : Int) ≤ 4096) = true := by simp; omega
  clear hl hall hs
  go_enter Try.func17, Try.ntmps17
  go_wp2_with (go_at_call 30; refine (isList_any _ _ _ _).mono ?_; rintro e1 w1 ⟨rfl, rfl⟩)
  go_loopw [6, 17] (fun vo vi wr => IAInv w w.heap.size (w.heap.size + 1 + 1) ss vo vi wr) (fun _ vi _ => ss.length - (intOf vi).toNat)
  case atStart =>
    refine ⟨0, Nat.zero_le _, rfl, ⟨?_, ?_, ?_, grown_alloc (grown_alloc (grown_alloc (grown_refl _ _) _) _) _⟩⟩
    · have h := heap_alloc_new ((w.alloc (.cells #[.string ⟨#[]⟩, .int .i64 0, .bool false, .bool false, .bool false] 29)).alloc (.cells #[] 9)) (.cells #[.string ⟨#[]⟩, .int .i64 0, .bool false, .bool false, .bool false] 29)
      rwa [show ((w.alloc (.cells #[.string ⟨#[]⟩, .int .i64 0, .bool false, .bool false, .bool false] 29)).alloc (.cells #[] 9)).heap.size = w.heap.size + 1 + 1 by simp] at h
    · exact FrAt.grown_ (row := none) (FAt.new w Fr.F.zero) (grown_alloc (grown_alloc (grown_refl _ _) _) _) (by simp)
    · exact (Own.made_ _ 0 #[] (by simp) (by simp) (by simp [maxLen]) rfl).alloc _
  case round =>
    obtain ⟨k, hk, rfl, hst⟩ := hrel
    generalize hs1 : (ss.take k).foldl Fr.iOne ⟨Fr.F.zero, []⟩ = st at hst
    obtain ⟨⟨buf, d, q, sk, cl⟩, out⟩ := st
    have HS1 := Lib.hid hs1
    clear hs1 hb
    obtain ⟨hfr, hres, hout, hgr⟩ := hst
    have HFr := Lib.hid hfr
    have HR := Lib.hid hres
    have HO := Lib.hid hout
    have HG := Lib.hid hgr
    have hlt0 : w.heap.size + 1 + 1 < wr.heap.size := World.block_lt_of_cell? wr _ hfr.cell0
    clear hfr hres hout hgr
    by_cases hlt : k < ss.length
    · have hgood := (Fr.all_alike (ss.take k) ⟨Fr.F.zero, []⟩ Fr.zero_good).2
      rw [HS1.out] at hgood
      have HOK := Lib.hid (show Fr.IS.ok ⟨⟨d, q, sk, cl⟩, buf, []⟩ from hgood.1)
      have HBS := Lib.hid (show (⟨buf.toArray⟩ : ByteArray).size ≤ 3000 from by
        show buf.toArray.size ≤ 3000
        rcases hgood.1 with h | h
        · have := hgood.2 h
          injection this with h1
          subst h1
          simp
        · have := h.2.2.1
          simpa using this)
      have HSZ := Lib.hid (show ss[k].size ≤ 1048576 from by
        have h1 := sumT_take ss k hlt
        have h2 := sumT_mono ss (k + 1)
        have h3 := HSS.out
        omega)
      have HNX := Lib.hid (iall_next ss k hlt ⟨Fr.F.zero, []⟩)
      rw [HS1.out] at HNX
      generalize hif : Fr.iFeed ⟨buf, d, q, sk, cl⟩ ss[k].data.toList = fs
      have HSTEP := Lib.hid (show Fr.iOne ⟨⟨buf, d, q, sk, cl⟩, out⟩ ss[k] = ⟨fs.done, out ++ fs.out⟩ from by unfold Fr.iOne; rw [hif])
      have HIF := Lib.hid hif
      have hnn : out.length + fs.out.length ≤ 1048576 := by
        have h2 := Fr.iAll_len (ss.take (k + 1)) ⟨Fr.F.zero, []⟩
        rw [HNX.out, HSTEP.out] at h2
        have h3 := sumT_mono ss (k + 1)
        have h4 := HSS.out
        simp only [List.length_append, List.length_nil] at h2
        omega
      have HN := Lib.hid (show out.length + fs.out.length ≤ maxLen ∧ (out.length + fs.out.length) * 16 ≤ 140737488355328 from by simp only [maxLen]; omega)
      obtain ⟨b1, o1, rfl, hb1, hc1⟩ := HLi.out.at_ (by rw [tv_len]; omega)
      have hcell1 : wr.cell? ⟨b1, o1 + k, none⟩ = some (.string ss[k]) := HG.out.cell (hc1 k _ (tv_at ss k hlt)) (by simp)
      have hlt2 : (k : Int) < (ss.length : Int) := by omega
      have hge : (0 : Int) ≤ (k : Int) := by omega
      clear hgood hc1 hif hnn
      go_wp2_with (first | (go_at_call 29; go_must (refine (feed_as (w.heap.size + 1 + 1) ⟨buf.toArray⟩ ⟨d, q, sk, cl⟩ ss[k] _ HFr.out HSZ.out HBS.out HOK.out fs HIF.out).mono ?_; rintro e1 w1 ⟨a1, cp1, rfl, ho1, hg1, hf1⟩; have HF1 := Lib.hid hf1; have HL1 := Lib.hid ho1.lies_; have HR1 := Lib.hid (FrAt.grown_ HR.out hg1 (by intro h; injection h with h; omega)); have HO1 := Lib.hid (HO.out.grown hg1 (.inr (HO.out.ne_row HFr.out.row_ (by decide)))); have HG1 := Lib.hid (grown_trans HG.out hg1 (by intro g e hlt; injection e with e; omega)); clear ho1 hg1 hf1)) | (at_builtin; go_must (refine wpList_app rfl (.tmp 21) (.tmp 23) 32 rfl el_texts rfl HO1.out rfl (by rw [sv_len, Nat.mul_one]) HL1.out (sv_one _) HN.out.1 HN.out.2 HG1.out.size ?_; intro v4 w4 ho4 hg4 _; have HO4 := Lib.hid ho4; have HG4 := Lib.hid hg4; clear ho4 hg4)))
      go_roundw
      case rel => exact ⟨k + 1, by omega, by go_num, by rw [HNX.out, HSTEP.out]; exact ⟨FrAt.grown_ HF1.out HG4.out (HO1.out.ne_row HF1.out.row_ (by decide)).symm, HR1.out.grown_ HG4.out (HO1.out.ne_row HR1.out.row_ (by decide)).symm, by simpa [sv_app] using HO4.out, grown_trans HG1.out HG4.out (HO1.out.no_old w.heap.size (Nat.le_refl _))⟩⟩
      case measure => simp [intOf]; omega
    · have hke : k = ss.length := by omega
      have HE := Lib.hid (show (⟨⟨buf, d, q, sk, cl⟩, out⟩ : Fr.AS) = ⟨⟨b0, d0, q0, s0, c0⟩, out0⟩ from by
        rw [← HS1.out, ← HALL.out, hke, List.take_length])
      have hra := HR.out.all
      have hfa := HFr.out.all
      clear hke
      go_wp2_with fail
      obtain ⟨a6, c6, h6⟩ := HO.out.form
      obtain ⟨e1, e2⟩ := Fr.AS.mk.inj HE.out
      obtain ⟨rfl, rfl, rfl, rfl, rfl⟩ := Fr.F.mk.inj e1
      subst e2
      refine bodyPost_ret (v := .tuple #[fv ⟨buf, d, q, sk, cl⟩, u6, .int .i64 0]) (by simp [results, Try.results17, go_sem, fv, *]) rfl ⟨a6, c6, by rw [← h6], ?_, ?_⟩
      · rw [← h6]
        exact HO.out.grown (set5_grown _ _ _ _ _ _ _) (.inr (HO.out.ne_row HR.out.row_ (by decide)))
      · exact grown_trans HG.out (set5_grown _ _ _ _ _ _ _) (by intro g e hlt; injection e with e; omega)

end Go.Proofs.Ytopebociobgmhaa

/-
  Contract of the program's feed.
-/
import Derived.Test.YtopebociobgmhaaB
namespace Go.Proofs.Ytopebociobgmhaa
open Go.RowKit

theorem FrAt.grown {w w' : World} {g : Nat} {buf : ByteArray} {f : Fr.G} {row : Option Nat} (h : FrAt w g buf f) (hb : w.grownBy w' row) (hg : some g ≠ row) : FrAt w' g buf f := by
  unfold FrAt at h ⊢
  rw [hb.block g (Array.getElem?_eq_some_iff.1 h).1 hg]
  exact h
theorem FrAt.row {w : World} {g : Nat} {buf : ByteArray} {f : Fr.G} (h : FrAt w g buf f) : Row w g 29 #[.string buf, .int .i64 f.depth, .bool f.quote, .bool f.skip, .bool f.closed] := .of h

theorem fold_next (t : ByteArray) (k : Nat) (h : k < t.size) (f0 : Fr.IS) : (t.data.toList.take (k + 1)).foldl Fr.iStep f0 = Fr.iStep ((t.data.toList.take k).foldl Fr.iStep f0) t[k] := by
  rw [List.take_succ_eq_append_getElem (by simpa using h), List.foldl_append]; rfl

theorem closed_fold (l : List UInt8) (s : Fr.IS) (h : s.g.closed = true) : l.foldl Fr.iStep s = s := by
  induction l with
  | nil => rfl
  | cons b l ih => rw [List.foldl_cons, show Fr.iStep s b = s by simp [Fr.iStep, h]]; exact ih

/-- Behind k bytes. -/
structure FeedSt (w0 : World) (g : Nat) (s0 : ByteArray) (s : Fr.IS) (k : Nat) (vo vb : Value) (wr : World) : Prop where
  fr : FrAt wr g s0 s.g
  out : Own wr w0.heap.size 9 1 vo s.out.length (sv s.out)
  buf : Own wr w0.heap.size 5 1 vb s.buf.length (bv s.buf)
  grown : w0.grownBy wr (some g)
  len : s.out.length ≤ k

def FeedInv (w0 : World) (g : Nat) (s0 : ByteArray) (f0 : Fr.IS) (t : ByteArray) (vo vb vi : Value) (wr : World) : Prop :=
  ∃ k : Nat, k ≤ t.size ∧ vi = .int .i64 k ∧ FeedSt w0 g s0 ((t.data.toList.take k).foldl Fr.iStep f0) k vo vb wr

def FeedPost (w0 : World) (g : Nat) (f0 : Fr.IS) (t : ByteArray) (e : Ending) (w' : World) : Prop :=
  ∃ v, e = .returned v ∧ Own w' w0.heap.size 9 1 v (t.data.toList.foldl Fr.iStep f0).out.length (sv (t.data.toList.foldl Fr.iStep f0).out) ∧ w0.grownBy w' (some g) ∧
    FrAt w' g ⟨(t.data.toList.foldl Fr.iStep f0).done.buf.toArray⟩ ⟨(t.data.toList.foldl Fr.iStep f0).done.depth, (t.data.toList.foldl Fr.iStep f0).done.quote, (t.data.toList.foldl Fr.iStep f0).done.skip, (t.data.toList.foldl Fr.iStep f0).done.closed⟩

theorem FeedInv.next {w wr : World} {g : Nat} {s0 : ByteArray} {f0 st st' : Fr.IS} {t : ByteArray} {k : Nat} {vo vb : Value} (hk : k < t.size)
    (hfn : (t.data.toList.take (k + 1)).foldl Fr.iStep f0 = Fr.iStep st t[k]) (hstep : Fr.iStep st t[k] = st') (hst : FeedSt w g s0 st' (k + 1) vo vb wr) :
    FeedInv w g s0 f0 t vo vb (.int .i64 (k + 1)) wr := ⟨k + 1, by omega, by simp, by rw [hfn, hstep]; exact hst⟩

theorem FeedPost.of {w wr w' : World} {g : Nat} {s0 sb : ByteArray} {f0 st : Fr.IS} {t : ByteArray} {vo : Value} {f1 : Fr.G} (hst : t.data.toList.foldl Fr.iStep f0 = st) (hfr : FrAt wr g s0 st.g)
    (hout : Own wr w.heap.size 9 1 vo st.out.length (sv st.out)) (hg : w.grownBy wr (some g)) (hg2 : wr.grownBy w' (some g)) (hfr2 : FrAt w' g sb f1)
    (hd : (sb, f1) = (⟨st.done.buf.toArray⟩, ⟨st.done.depth, st.done.quote, st.done.skip, st.done.closed⟩)) : FeedPost w g f0 t (.returned vo) w' := by
  injection hd with h1 h2
  subst h1 h2 hst
  exact ⟨vo, rfl, hout.grown hg2 (.inr (hout.ne_row hfr.row (by decide))), grown_trans hg hg2 (fun _ e _ => e), hfr2⟩

set_option maxRecDepth 100000 in
set_option maxHeartbeats 400000 in
theorem feed_any (g : Nat) (s0 : ByteArray) (f : Fr.G) (t : ByteArray) (w : World) (hf : FrAt w g s0 f) (ht : t.size ≤ 1048576) (hs : s0.size ≤ 3000) (hok : Fr.IS.ok ⟨f, s0.data.toList, []⟩) :
    Calls Try.prog 29 #[.pointer (some ⟨g, 0, none⟩), .string t] w (FeedPost w g ⟨f, s0.data.toList, []⟩ t) := by
  have h0 := hf.cell0
  have HF := Lib.hid hf
  have HOK := Lib.hid hok
  clear hf hok
  go_enter Try.func29, Try.ntmps29
  go_upto_region 1 with fail
  go_cut [5, 6] (fun s5 s6 wx => Own wx w.heap.size 9 1 s5 0 [] ∧ Own wx w.heap.size 5 1 s6 s0.size (bv s0.data.toList) ∧ w.grownBy wx none)
  case first =>
    have hc := fun W => run_bytes_of_string (P := Try.prog) W 9 42 5 s0 Try.underlying9 Try.underlying42 Try.underlying5
    have e0 := fun o => cell_alloc_of h0 o
    go_region
    all_goals (clear hc e0; go_wp2_with fail; go_meet)
    · refine ⟨(Own.made_ w.heap.size 0 #[] (Nat.le_refl _) rfl (by simp [maxLen]) rfl).alloc _, Own.bytes s0 _ _ (grownCap_ge _ _ _ _) (grownCap_le_maxLen _ _ _ _ (by simp [maxLen]; omega)) (by simp) (by simp), ?_⟩
      exact grown_drew (grown_drew (grown_alloc (grown_alloc (grown_refl _ _) _) _))
    · refine ⟨Own.made_ _ 0 #[] (by simp) (by simp) (by simp [maxLen]) rfl, (Own.bytes s0 _ _ (grownCap_ge _ _ _ _) (grownCap_le_maxLen _ _ _ _ (by simp [maxLen]; omega)) (Nat.le_refl _) rfl).alloc _, ?_⟩
      exact grown_drew (grown_drew (grown_alloc (grown_alloc (grown_refl _ _) _) _))
  case rest =>
    obtain ⟨c1, c2, c3⟩ := hcut
    have HI : FeedInv w g s0 ⟨f, s0.data.toList, []⟩ t u5 u6 (.int .i64 0) wc := by
      refine ⟨0, Nat.zero_le _, rfl, ⟨HF.out.grown c3 (by simp), c1, ?_, grown_weak c3, Nat.le_refl _⟩⟩
      simpa using c2
    clear h0 c1 c2 c3
    go_wp2_with fail
    go_loopw [5, 6, 7] (fun so sb si wx => FeedInv w g s0 ⟨f, s0.data.toList, []⟩ t so sb si wx) (fun _ _ si _ => t.size - (intOf si).toNat)
    case atStart => exact HI
    case round =>
      obtain ⟨k, hk, rfl, hst⟩ := hrel
      clear HI
      generalize hs1 : (t.data.toList.take k).foldl Fr.iStep ⟨f, s0.data.toList, []⟩ = st at hst
      obtain ⟨⟨d, q, sk, cl⟩, buf, out⟩ := st
      have HS1 := Lib.hid hs1
      clear hs1
      obtain ⟨hfr, hout, hbuf, hgr, hlen⟩ := hst
      have hlen : out.length ≤ k := hlen
      have c1 := hfr.cell1
      have c4 := hfr.cell4
      have HFr := Lib.hid hfr
      have HO := Lib.hid hout
      have HB := Lib.hid hbuf
      have HG := Lib.hid hgr
      clear hfr hout hbuf hgr
      cases cl
      · by_cases hlt : k < t.size
        · have hok := (Fr.fold_alike (t.data.toList.take k) _ HOK.out).1
          rw [HS1.out] at hok
          have hfn := fold_next t k hlt ⟨f, s0.data.toList, []⟩
          rw [HS1.out] at hfn
          have HFN := Lib.hid hfn
          clear hfn
          rcases hok with hok | ⟨hd0, hd1, hb0, hz, _⟩
          · simp at hok
          simp only at hd0 hd1 hb0 hz
          have HZ := Lib.hid hz
          clear hz
          have HN := Lib.hid (show buf.length + 1 ≤ maxLen ∧ (buf.length + 1) * 1 ≤ 140737488355328 from by simp only [maxLen]; omega)
          have HN2 := Lib.hid (show out.length + 1 ≤ maxLen ∧ (out.length + 1) * 16 ≤ 140737488355328 from by simp only [maxLen]; omega)
          cases e1 : (d == 0)
          · have e5 : (d != 0) = true := by simp [bne, e1]
            cases er : (Fr.inText ⟨d, q, sk, false⟩ (t[k].toNat : Int) (decide (3000 < (buf.length : Int) + 1))).2
            · have HSTEP := Lib.hid (show Fr.iStep ⟨⟨d, q, sk, false⟩, buf, out⟩ t[k] = ⟨(Fr.inText ⟨d, q, sk, false⟩ (t[k].toNat : Int) (decide (3000 < (buf.length : Int) + 1))).1, buf ++ [t[k]], out⟩ from by simp [Fr.iStep, e1, er])
              go_wp2_with (first | (go_at_call 35; refine (isBlank_any _ _).mono ?_; rintro e1 w1 ⟨rfl, rfl⟩) | (at_builtin; refine wpList_app1 rfl (.tmp 58) (.tmp 60) 42 rfl el_bytes rfl HB.out rfl rfl rfl HN.out.1 HN.out.2 HG.out.size ?_; intro a1 cp1 w1 hown1 hg1; have HB1 := Lib.hid hown1; have HF1 := Lib.hid (HFr.out.grown hg1 (HB.out.ne_row HFr.out.row (by decide)).symm); have HO1 := Lib.hid (HO.out.grown hg1 (HO.out.ne_own HB.out (by decide))); have HG1 := Lib.hid (grown_trans HG.out hg1 (HB.out.no_old w.heap.size (Nat.le_refl _))); clear hown1 hg1) | (go_at_call 36; go_must (refine (inText_any g s0 d q sk _ _ _ hd0 hd1 HF1.out).mono ?_; rintro e1 w2 ⟨rfl, hfr2, hon2⟩; have HF2 := Lib.hid hfr2; have HG2 := Lib.hid hon2.1; clear hfr2 hon2)))
              go_roundw
              case rel => exact FeedInv.next hlt HFN.out HSTEP.out ⟨HF2.out, HO1.out.grown HG2.out (.inr (HO1.out.ne_row HF1.out.row (by decide))), by simpa [bv_snoc] using HB1.out.grown HG2.out (.inr (HB1.out.ne_row HF1.out.row (by decide))), grown_trans HG1.out HG2.out (fun _ e _ => e), by simp only; omega⟩
              case measure => simp [intOf]; omega
            · have HSTEP := Lib.hid (show Fr.iStep ⟨⟨d, q, sk, false⟩, buf, out⟩ t[k] = ⟨(Fr.inText ⟨d, q, sk, false⟩ (t[k].toNat : Int) (decide (3000 < (buf.length : Int) + 1))).1, [], out ++ [buf ++ [t[k]]]⟩ from by simp [Fr.iStep, e1, er])
              go_wp2_with (first | (go_at_call 35; refine (isBlank_any _ _).mono ?_; rintro e1 w1 ⟨rfl, rfl⟩) | (at_builtin; refine wpList_app1 rfl (.tmp 58) (.tmp 60) 42 rfl el_bytes rfl HB.out rfl rfl rfl HN.out.1 HN.out.2 HG.out.size ?_; intro a1 cp1 w1 hown1 hg1; have HB1 := Lib.hid hown1; have HF1 := Lib.hid (HFr.out.grown hg1 (HB.out.ne_row HFr.out.row (by decide)).symm); have HO1 := Lib.hid (HO.out.grown hg1 (HO.out.ne_own HB.out (by decide))); have HG1 := Lib.hid (grown_trans HG.out hg1 (HB.out.no_old w.heap.size (Nat.le_refl _))); clear hown1 hg1) | (go_at_call 36; go_must (refine (inText_any g s0 d q sk _ _ _ hd0 hd1 HF1.out).mono ?_; rintro e1 w2 ⟨rfl, hfr2, hon2⟩; have HF2 := Lib.hid hfr2; have HG2 := Lib.hid hon2.1; clear hfr2 hon2); have hcv2 := conv_bytes_string w2 a1 (buf.length + 1) cp1 (buf ++ [t[k]]) (by simp) (by rw [bv_snoc]; exact (HB1.out.grown HG2.out (.inr (HB1.out.ne_row HF1.out.row (by decide)))).lies_)) | (at_builtin; go_must (refine wpList_app1 rfl (.tmp 68) (.tmp 71) 32 rfl el_texts rfl (HO1.out.grown HG2.out (.inr (HO1.out.ne_row HF1.out.row (by decide)))) rfl rfl rfl HN2.out.1 HN2.out.2 (Nat.le_trans HG1.out.size HG2.out.size) ?_); intro a3 cp3 w3 hown3 hg3; have HO3 := Lib.hid hown3; have HG3 := Lib.hid hg3; clear hown3 hg3))
              go_roundw
              case rel => exact FeedInv.next hlt HFN.out HSTEP.out ⟨HF2.out.grown HG3.out (HO1.out.ne_row HF1.out.row (by decide)).symm, by simpa [sv_snoc] using HO3.out, Own.nil _ _ _ _, grown_trans (grown_trans HG1.out HG2.out (fun _ e _ => e)) HG3.out (HO1.out.no_old w.heap.size (Nat.le_refl _)), by simp; omega⟩
              case measure => simp [intOf]; omega
          · cases e2 : Fr.blank (t[k].toNat : Int)
            · cases e3 : ((t[k].toNat : Int) != 123)
              · cases er : (Fr.inText ⟨d, q, sk, false⟩ (t[k].toNat : Int) (decide (3000 < (buf.length : Int) + 1))).2
                · have HSTEP := Lib.hid (show Fr.iStep ⟨⟨d, q, sk, false⟩, buf, out⟩ t[k] = ⟨(Fr.inText ⟨d, q, sk, false⟩ (t[k].toNat : Int) (decide (3000 < (buf.length : Int) + 1))).1, buf ++ [t[k]], out⟩ from by simp [Fr.iStep, e1, e2, e3, er])
                  go_wp2_with (first | (go_at_call 35; refine (isBlank_any _ _).mono ?_; rintro e1 w1 ⟨rfl, rfl⟩) | (at_builtin; refine wpList_app1 rfl (.tmp 58) (.tmp 60) 42 rfl el_bytes rfl HB.out rfl rfl rfl HN.out.1 HN.out.2 HG.out.size ?_; intro a1 cp1 w1 hown1 hg1; have HB1 := Lib.hid hown1; have HF1 := Lib.hid (HFr.out.grown hg1 (HB.out.ne_row HFr.out.row (by decide)).symm); have HO1 := Lib.hid (HO.out.grown hg1 (HO.out.ne_own HB.out (by decide))); have HG1 := Lib.hid (grown_trans HG.out hg1 (HB.out.no_old w.heap.size (Nat.le_refl _))); clear hown1 hg1) | (go_at_call 36; go_must (refine (inText_any g s0 d q sk _ _ _ hd0 hd1 HF1.out).mono ?_; rintro e1 w2 ⟨rfl, hfr2, hon2⟩; have HF2 := Lib.hid hfr2; have HG2 := Lib.hid hon2.1; clear hfr2 hon2)))
                  go_roundw
                  case rel => exact FeedInv.next hlt HFN.out HSTEP.out ⟨HF2.out, HO1.out.grown HG2.out (.inr (HO1.out.ne_row HF1.out.row (by decide))), by simpa [bv_snoc] using HB1.out.grown HG2.out (.inr (HB1.out.ne_row HF1.out.row (by decide))), grown_trans HG1.out HG2.out (fun _ e _ => e), by simp only; omega⟩
                  case measure => simp [intOf]; omega
                · have HSTEP := Lib.hid (show Fr.iStep ⟨⟨d, q, sk, false⟩, buf, out⟩ t[k] = ⟨(Fr.inText ⟨d, q, sk, false⟩ (t[k].toNat : Int) (decide (3000 < (buf.length : Int) + 1))).1, [], out ++ [buf ++ [t[k]]]⟩ from by simp [Fr.iStep, e1, e2, e3, er])
                  go_wp2_with (first | (go_at_call 35; refine (isBlank_any _ _).mono ?_; rintro e1 w1 ⟨rfl, rfl⟩) | (at_builtin; refine wpList_app1 rfl (.tmp 58) (.tmp 60) 42 rfl el_bytes rfl HB.out rfl rfl rfl HN.out.1 HN.out.2 HG.out.size ?_; intro a1 cp1 w1 hown1 hg1; have HB1 := Lib.hid hown1; have HF1 := Lib.hid (HFr.out.grown hg1 (HB.out.ne_row HFr.out.row (by decide)).symm); have HO1 := Lib.hid (HO.out.grown hg1 (HO.out.ne_own HB.out (by decide))); have HG1 := Lib.hid (grown_trans HG.out hg1 (HB.out.no_old w.heap.size (Nat.le_refl _))); clear hown1 hg1) | (go_at_call 36; go_must (refine (inText_any g s0 d q sk _ _ _ hd0 hd1 HF1.out).mono ?_; rintro e1 w2 ⟨rfl, hfr2, hon2⟩; have HF2 := Lib.hid hfr2; have HG2 := Lib.hid hon2.1; clear hfr2 hon2); have hcv2 := conv_bytes_string w2 a1 (buf.length + 1) cp1 (buf ++ [t[k]]) (by simp) (by rw [bv_snoc]; exact (HB1.out.grown HG2.out (.inr (HB1.out.ne_row HF1.out.row (by decide)))).lies_)) | (at_builtin; go_must (refine wpList_app1 rfl (.tmp 68) (.tmp 71) 32 rfl el_texts rfl (HO1.out.grown HG2.out (.inr (HO1.out.ne_row HF1.out.row (by decide)))) rfl rfl rfl HN2.out.1 HN2.out.2 (Nat.le_trans HG1.out.size HG2.out.size) ?_); intro a3 cp3 w3 hown3 hg3; have HO3 := Lib.hid hown3; have HG3 := Lib.hid hg3; clear hown3 hg3))
                  go_roundw
                  case rel => exact FeedInv.next hlt HFN.out HSTEP.out ⟨HF2.out.grown HG3.out (HO1.out.ne_row HF1.out.row (by decide)).symm, by simpa [sv_snoc] using HO3.out, Own.nil _ _ _ _, grown_trans (grown_trans HG1.out HG2.out (fun _ e _ => e)) HG3.out (HO1.out.no_old w.heap.size (Nat.le_refl _)), by simp; omega⟩
                  case measure => simp [intOf]; omega
              · cases e4 : ((t[k].toNat : Int) != 91)
                · cases er : (Fr.inText ⟨d, q, sk, false⟩ (t[k].toNat : Int) (decide (3000 < (buf.length : Int) + 1))).2
                  · have HSTEP := Lib.hid (show Fr.iStep ⟨⟨d, q, sk, false⟩, buf, out⟩ t[k] = ⟨(Fr.inText ⟨d, q, sk, false⟩ (t[k].toNat : Int) (decide (3000 < (buf.length : Int) + 1))).1, buf ++ [t[k]], out⟩ from by simp [Fr.iStep, e1, e2, e3, e4, er])
                    go_wp2_with (first | (go_at_call 35; refine (isBlank_any _ _).mono ?_; rintro e1 w1 ⟨rfl, rfl⟩) | (at_builtin; refine wpList_app1 rfl (.tmp 58) (.tmp 60) 42 rfl el_bytes rfl HB.out rfl rfl rfl HN.out.1 HN.out.2 HG.out.size ?_; intro a1 cp1 w1 hown1 hg1; have HB1 := Lib.hid hown1; have HF1 := Lib.hid (HFr.out.grown hg1 (HB.out.ne_row HFr.out.row (by decide)).symm); have HO1 := Lib.hid (HO.out.grown hg1 (HO.out.ne_own HB.out (by decide))); have HG1 := Lib.hid (grown_trans HG.out hg1 (HB.out.no_old w.heap.size (Nat.le_refl _))); clear hown1 hg1) | (go_at_call 36; go_must (refine (inText_any g s0 d q sk _ _ _ hd0 hd1 HF1.out).mono ?_; rintro e1 w2 ⟨rfl, hfr2, hon2⟩; have HF2 := Lib.hid hfr2; have HG2 := Lib.hid hon2.1; clear hfr2 hon2)))
                    go_roundw
                    case rel => exact FeedInv.next hlt HFN.out HSTEP.out ⟨HF2.out, HO1.out.grown HG2.out (.inr (HO1.out.ne_row HF1.out.row (by decide))), by simpa [bv_snoc] using HB1.out.grown HG2.out (.inr (HB1.out.ne_row HF1.out.row (by decide))), grown_trans HG1.out HG2.out (fun _ e _ => e), by simp only; omega⟩
                    case measure => simp [intOf]; omega
                  · have HSTEP := Lib.hid (show Fr.iStep ⟨⟨d, q, sk, false⟩, buf, out⟩ t[k] = ⟨(Fr.inText ⟨d, q, sk, false⟩ (t[k].toNat : Int) (decide (3000 < (buf.length : Int) + 1))).1, [], out ++ [buf ++ [t[k]]]⟩ from by simp [Fr.iStep, e1, e2, e3, e4, er])
                    go_wp2_with (first | (go_at_call 35; refine (isBlank_any _ _).mono ?_; rintro e1 w1 ⟨rfl, rfl⟩) | (at_builtin; refine wpList_app1 rfl (.tmp 58) (.tmp 60) 42 rfl el_bytes rfl HB.out rfl rfl rfl HN.out.1 HN.out.2 HG.out.size ?_; intro a1 cp1 w1 hown1 hg1; have HB1 := Lib.hid hown1; have HF1 := Lib.hid (HFr.out.grown hg1 (HB.out.ne_row HFr.out.row (by decide)).symm); have HO1 := Lib.hid (HO.out.grown hg1 (HO.out.ne_own HB.out (by decide))); have HG1 := Lib.hid (grown_trans HG.out hg1 (HB.out.no_old w.heap.size (Nat.le_refl _))); clear hown1 hg1) | (go_at_call 36; go_must (refine (inText_any g s0 d q sk _ _ _ hd0 hd1 HF1.out).mono ?_; rintro e1 w2 ⟨rfl, hfr2, hon2⟩; have HF2 := Lib.hid hfr2; have HG2 := Lib.hid hon2.1; clear hfr2 hon2); have hcv2 := conv_bytes_string w2 a1 (buf.length + 1) cp1 (buf ++ [t[k]]) (by simp) (by rw [bv_snoc]; exact (HB1.out.grown HG2.out (.inr (HB1.out.ne_row HF1.out.row (by decide)))).lies_)) | (at_builtin; go_must (refine wpList_app1 rfl (.tmp 68) (.tmp 71) 32 rfl el_texts rfl (HO1.out.grown HG2.out (.inr (HO1.out.ne_row HF1.out.row (by decide)))) rfl rfl rfl HN2.out.1 HN2.out.2 (Nat.le_trans HG1.out.size HG2.out.size) ?_); intro a3 cp3 w3 hown3 hg3; have HO3 := Lib.hid hown3; have HG3 := Lib.hid hg3; clear hown3 hg3))
                    go_roundw
                    case rel => exact FeedInv.next hlt HFN.out HSTEP.out ⟨HF2.out.grown HG3.out (HO1.out.ne_row HF1.out.row (by decide)).symm, by simpa [sv_snoc] using HO3.out, Own.nil _ _ _ _, grown_trans (grown_trans HG1.out HG2.out (fun _ e _ => e)) HG3.out (HO1.out.no_old w.heap.size (Nat.le_refl _)), by simp; omega⟩
                    case measure => simp [intOf]; omega
                · have f4 := HFr.out.free 4
                  have HSTEP := Lib.hid (show Fr.iStep ⟨⟨d, q, sk, false⟩, buf, out⟩ t[k] = ⟨⟨d, q, sk, true⟩, buf, out⟩ from by simp [Fr.iStep, e1, e2, e3, e4])
                  go_wp2_with (go_at_call 35; refine (isBlank_any _ _).mono ?_; rintro e1 w1 ⟨rfl, rfl⟩)
                  go_roundw
                  case rel => exact FeedInv.next hlt HFN.out HSTEP.out ⟨HFr.out.set4 _, HO.out.far (HO.out.ne_row HFr.out.row (by decide)) _, HB.out.far (HB.out.ne_row HFr.out.row (by decide)) _, grown_set_own HG.out _ _, by simp only; omega⟩
                  case measure => simp [intOf]; omega
            · have HSTEP := Lib.hid (show Fr.iStep ⟨⟨d, q, sk, false⟩, buf, out⟩ t[k] = ⟨⟨d, q, sk, false⟩, buf, out⟩ from by simp [Fr.iStep, e1, e2])
              go_wp2_with (go_at_call 35; refine (isBlank_any _ _).mono ?_; rintro e1 w1 ⟨rfl, rfl⟩)
              go_roundw
              case rel => exact FeedInv.next hlt HFN.out HSTEP.out ⟨HFr.out, HO.out, HB.out, HG.out, by simp only; omega⟩
              case measure => simp [intOf]; omega
        · have hkt : k = t.size := by omega
          have hall : Hid (t.data.toList.foldl Fr.iStep ⟨f, s0.data.toList, []⟩ = ⟨⟨d, q, sk, false⟩, buf, out⟩) := by
            show _ = _
            rw [← HS1.out, List.take_of_length_le (by simp; omega)]
          obtain ⟨ab, cb, rfl, hlb⟩ := HB.out.lies
          have hcv := conv_bytes_string wr ab _ cb buf rfl hlb
          have c0 := HFr.out.cell0
          have f0 := HFr.out.free 0
          have HK := Lib.hid hkt
          clear hlb hkt
          go_wp2_with fail
          go_ret
          refine FeedPost.of hall.out HFr.out HO.out HG.out ?_ (HFr.out.set0 _) rfl
          exact grown_set_own (grown_refl _ _) _ _
      · have hall : Hid (t.data.toList.foldl Fr.iStep ⟨f, s0.data.toList, []⟩ = ⟨⟨d, q, sk, true⟩, buf, out⟩) := by
          have e := List.take_append_drop k t.data.toList
          show _ = _
          rw [← e, List.foldl_append, HS1.out]
          exact closed_fold _ _ rfl
        obtain ⟨ab, cb, rfl, hlb⟩ := HB.out.lies
        have hcv := conv_bytes_string wr ab _ cb buf rfl hlb
        have c0 := HFr.out.cell0
        have c2 := HFr.out.cell2
        have c3 := HFr.out.cell3
        have f0 := HFr.out.free 0
        have f1 := HFr.out.free 1
        have f2 := HFr.out.free 2
        have f3 := HFr.out.free 3
        have f4 := HFr.out.free 4
        clear hlb
        by_cases hlt : k < t.size
        all_goals
          go_wp2_with fail
          go_ret
          refine FeedPost.of hall.out HFr.out HO.out HG.out ?_ ((((((HFr.out.set0 _).set0 ⟨#[]⟩).set1 0).set2 false).set3 false).set4 true) rfl
          exact grown_set_own (grown_set_own (grown_set_own (grown_set_own (grown_set_own (grown_set_own (grown_refl _ _) _ _) _ _) _ _) _ _) _ _) _ _

end Go.Proofs.Ytopebociobgmhaa

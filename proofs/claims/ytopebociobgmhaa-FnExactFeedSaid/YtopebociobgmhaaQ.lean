/-
  Contracts of the two Feed.
-/
import Derived.Test.YtopebociobgmhaaP
import Derived.Test.YtopebociobgmhaaM
namespace Go.Proofs.Ytopebociobgmhaa
open Go.RowKit

/-- what a call of Feed comes to -/
def FeedTo (w : World) (x : Fr.F) (oss : List (List UInt8)) (code : Int) (e : Ending) (w' : World) : Prop :=
  ∃ a c, e = .returned (.tuple #[fv x, .slice a oss.length c, .int .i64 code]) ∧ Own w' w.heap.size 9 1 (.slice a oss.length c) oss.length (sv oss) ∧ w.grownBy w' none

theorem iOK_good (f : Fr.F) (h : Fr.iOK f = true) : f.good := by
  unfold Fr.iOK at h
  by_cases hc : f.closed = true
  · rw [if_pos hc] at h
    have : f = Fr.F.shut := by simpa using h
    subst this
    exact ⟨Fr.F.shut_ok, fun _ => rfl⟩
  · rw [if_neg hc] at h
    by_cases hl : 3000 < f.buf.length
    · simp [hl] at h
    · rw [if_neg hl] at h
      have ha := Fr.feed_alike Fr.F.zero f.buf Fr.F.zero_ok (by simp [Fr.F.zero])
      have hd := Fr.F.done_ok _ ha.2
      simp only [Bool.and_eq_true, decide_eq_true_eq] at h
      rw [h.2] at hd
      exact hd

set_option maxRecDepth 100000 in
set_option maxHeartbeats 400000 in
theorem sFeed_long (f : Fr.F) (t : ByteArray) (w : World) (h : 65536 < t.size) (ht : t.size ≤ 1048576) :
    Calls Try.prog 22 #[fv f, .string t] w (FeedTo w Fr.F.zero [] 2) := by
  unfold fv
  go_enter Try.func22, Try.ntmps22
  go_wp2_with fail
  exact bodyPost_ret (v := .tuple #[fv Fr.F.zero, .slice (some ⟨w.heap.size + 1 + 1, 0, none⟩) 0 0, .int .i64 2]) (by simp [results, Try.results22, go_sem, fv, Fr.F.zero]) rfl
    ⟨_, _, rfl, Own.made_ _ 0 #[] (by simp; omega) (by simp) (by simp [maxLen]) rfl, grown_alloc (grown_alloc (grown_alloc (grown_refl _ _) _) _) _⟩

set_option maxRecDepth 100000 in
set_option maxHeartbeats 400000 in
theorem iFeed_long (f : Fr.F) (t : ByteArray) (w : World) (h : 65536 < t.size) (ht : t.size ≤ 1048576) :
    Calls Try.prog 23 #[fv f, .string t] w (FeedTo w Fr.F.zero [] 2) := by
  have hb : decide ((t.size : Int) ≤ 65536) = false := by simp; omega
  unfold fv
  go_enter Try.func23, Try.ntmps23
  go_wp2_with (go_at_call 28; refine (isText_any _ _).mono ?_; rintro e1 w1 ⟨rfl, rfl⟩)
  exact bodyPost_ret (v := .tuple #[fv Fr.F.zero, .slice none 0 0, .int .i64 2]) (by simp [results, Try.results23, go_sem, fv, Fr.F.zero]) rfl
    ⟨_, _, rfl, Own.nil _ _ _ _, grown_alloc (grown_alloc (grown_refl _ _) _) _⟩

theorem FrAt.allO {w : World} {g : Nat} {buf : ByteArray} {f : Fr.G} (h : FrAt w g buf f) (o : Obj) :
    (w.alloc o).cell? ⟨g, 0, none⟩ = some (.string buf) ∧ (w.alloc o).cell? ⟨g, 1, none⟩ = some (.int .i64 f.depth) ∧ (w.alloc o).cell? ⟨g, 2, none⟩ = some (.bool f.quote) ∧ (w.alloc o).cell? ⟨g, 3, none⟩ = some (.bool f.skip) ∧
    (w.alloc o).cell? ⟨g, 4, none⟩ = some (.bool f.closed) ∧ (w.alloc o).frozen? ⟨g, 0, none⟩ = false ∧ (w.alloc o).frozen? ⟨g, 1, none⟩ = false ∧ (w.alloc o).frozen? ⟨g, 2, none⟩ = false ∧ (w.alloc o).frozen? ⟨g, 3, none⟩ = false ∧ (w.alloc o).frozen? ⟨g, 4, none⟩ = false :=
  (h.grown_ (World.grownBy_alloc w o none) (by simp)).all

theorem two_boxes {w w1 : World} {f z : Fr.F} (hg : ((w.alloc (.cells #[.string ⟨f.buf.toArray⟩, .int .i64 f.depth, .bool f.quote, .bool f.skip, .bool f.closed] 29)).alloc (.cells #[.string ⟨z.buf.toArray⟩, .int .i64 z.depth, .bool z.quote, .bool z.skip, .bool z.closed] 29)).grownBy w1 none) :
    FAt w1 w.heap.size f ∧ FAt w1 (w.heap.size + 1) z ∧ w.grownBy w1 none :=
  ⟨FrAt.grown_ (row := none) (FrAt.grown_ (row := none) (FAt.new w f) (World.grownBy_alloc _ _ none) (by simp)) hg (by simp), FrAt.grown_ (row := none) (two_new w _ _) hg (by simp), grown_trans (grown_alloc (World.grownBy_alloc w _ none) _) hg (by simp)⟩

theorem own_set5 {w1 : World} {o : Obj} {g lo n : Nat} {z : ByteArray} {G : Fr.G} {v : Value} {xs : List Value} {u0 u1 u2 u3 u4 : Value} (ho : Own w1 lo 9 1 v n xs) (hz : FrAt w1 g z G) :
    Own ((((((w1.alloc o).setCell ⟨g, 0, none⟩ u0).setCell ⟨g, 1, none⟩ u1).setCell ⟨g, 2, none⟩ u2).setCell ⟨g, 3, none⟩ u3).setCell ⟨g, 4, none⟩ u4) lo 9 1 v n xs :=
  (ho.alloc o).grown (set5_grown (w1.alloc o) g u0 u1 u2 u3 u4) (.inr ((ho.alloc o).ne_row (hz.grown_ (World.grownBy_alloc w1 o none) (by simp)).row_ (by decide)))

theorem own_new5 {w w1 : World} {g : Nat} {z : ByteArray} {G : Fr.G} {u0 u1 u2 u3 u4 : Value} (hle : w.heap.size ≤ w1.heap.size) (hz : FrAt w1 g z G) :
    Own ((((((w1.alloc (.cells #[] 9)).setCell ⟨g, 0, none⟩ u0).setCell ⟨g, 1, none⟩ u1).setCell ⟨g, 2, none⟩ u2).setCell ⟨g, 3, none⟩ u3).setCell ⟨g, 4, none⟩ u4) w.heap.size 9 1 (.slice (some ⟨w1.heap.size, 0, none⟩) 0 0) 0 [] := by
  have ho : Own (w1.alloc (.cells #[] 9)) w.heap.size 9 1 (.slice (some ⟨w1.heap.size, 0, none⟩) 0 0) 0 [] := Own.made_ _ 0 #[] hle rfl (by simp [maxLen]) rfl
  exact ho.grown (set5_grown _ g u0 u1 u2 u3 u4) (.inr (ho.ne_row (hz.grown_ (World.grownBy_alloc w1 _ none) (by simp)).row_ (by decide)))

set_option maxRecDepth 100000 in
set_option maxHeartbeats 1000000 in
theorem sFeed_bad (f : Fr.F) (t : ByteArray) (w : World) (hm : f.buf.length ≤ 1048576) (ht : t.size ≤ 65536) (hok : Fr.sOK f = false) :
    Calls Try.prog 22 #[fv f, .string t] w (FeedTo w Fr.F.zero [] 1) := by
  have HK := Lib.hid hok
  clear hok
  unfold fv
  go_enter Try.func22, Try.ntmps22
  go_wp2_with (go_at_call 11; go_must (refine (sFramerOK_any f _ hm).mono ?_; rw [HK.out]; rintro e1 w1 ⟨rfl, hg1⟩; have H2 := Lib.hid (two_boxes (f := f) (z := Fr.F.zero) hg1); have hfa := H2.out.2.1.allO; have hfb := H2.out.1.all; clear hg1))
  exact bodyPost_ret (v := .tuple #[fv Fr.F.zero, (.slice (some ⟨w1.heap.size, 0, none⟩) 0 0), .int .i64 1]) (by simp [results, Try.results22, go_sem, fv, Fr.F.zero, *]) rfl
    ⟨_, _, rfl, own_new5 H2.out.2.2.size H2.out.2.1, grown_trans (grown_alloc H2.out.2.2 _) (set5_grown _ _ _ _ _ _ _) (by intro g e hlt; injection e with e; omega)⟩

set_option maxRecDepth 100000 in
set_option maxHeartbeats 1000000 in
theorem sFeed_closed (buf : List UInt8) (d : Int) (q k : Bool) (t : ByteArray) (w : World) (hm : buf.length ≤ 1048576) (ht : t.size ≤ 65536) (hok : Fr.sOK ⟨buf, d, q, k, true⟩ = true) :
    Calls Try.prog 22 #[fv ⟨buf, d, q, k, true⟩, .string t] w (FeedTo w ⟨buf, d, q, k, true⟩ [] 17) := by
  have HK := Lib.hid hok
  clear hok
  unfold fv
  go_enter Try.func22, Try.ntmps22
  go_wp2_with (go_at_call 11; go_must (refine (sFramerOK_any ⟨buf, d, q, k, true⟩ _ hm).mono ?_; rw [HK.out]; rintro e1 w1 ⟨rfl, hg1⟩; have H2 := Lib.hid (two_boxes (f := ⟨buf, d, q, k, true⟩) (z := Fr.F.zero) hg1); have hfa := H2.out.2.1.allO; have hfb := H2.out.1.all; clear hg1))
  exact bodyPost_ret (v := .tuple #[fv ⟨buf, d, q, k, true⟩, (.slice (some ⟨w1.heap.size, 0, none⟩) 0 0), .int .i64 17]) (by simp [results, Try.results22, go_sem, fv, *]) rfl
    ⟨_, _, rfl, own_new5 H2.out.2.2.size H2.out.2.1, grown_trans (grown_alloc H2.out.2.2 _) (set5_grown _ _ _ _ _ _ _) (by intro g e hlt; injection e with e; omega)⟩

set_option maxRecDepth 100000 in
set_option maxHeartbeats 1000000 in
theorem sFeed_open (buf : List UInt8) (d : Int) (q k : Bool) (t : ByteArray) (w : World) (hm : buf.length ≤ 1048576) (ht : t.size ≤ 65536) (hok : Fr.sOK ⟨buf, d, q, k, false⟩ = true) (hgood : Fr.F.ok ⟨buf, d, q, k, false⟩) (b' : List UInt8) (d' : Int) (q' s' c' : Bool) (out : List (List UInt8))
    (h : t.data.toList.foldl Fr.sStep ⟨⟨buf, d, q, k, false⟩, []⟩ = ⟨⟨b', d', q', s', c'⟩, out⟩) :
    Calls Try.prog 22 #[fv ⟨buf, d, q, k, false⟩, .string t] w (FeedTo w ⟨b', d', q', s', c'⟩ out 0) := by
  have HK := Lib.hid hok
  have HH := Lib.hid h
  have HOK := Lib.hid hgood
  clear hok h hgood
  unfold fv
  go_enter Try.func22, Try.ntmps22
  go_wp2_with (first | (go_at_call 11; go_must (refine (sFramerOK_any ⟨buf, d, q, k, false⟩ _ hm).mono ?_; rw [HK.out]; rintro e1 w1 ⟨rfl, hg1⟩; have H2 := Lib.hid (two_boxes (f := ⟨buf, d, q, k, false⟩) (z := Fr.F.zero) hg1); have hfa := H2.out.2.1.allO; have hfb := H2.out.1.all; clear hg1)) | (go_at_call 27; go_must (refine (l02Feed_as ⟨buf, d, q, k, false⟩ t _ (by omega) HOK.out b' d' q' s' c' out HH.out).mono ?_; rintro e1 w2 ⟨a2, cp2, rfl, ho2, hg2⟩; have HO2 := Lib.hid (ho2.weak H2.out.2.2.size); have HZ := Lib.hid (H2.out.2.1.grown_ hg2 (by simp)); have HG2 := Lib.hid (grown_trans H2.out.2.2 hg2 (by simp)); clear hfa hfb ho2 hg2; have hfc := HZ.out.allO)))
  exact bodyPost_ret (v := .tuple #[fv ⟨b', d', q', s', c'⟩, .slice a2 out.length cp2, .int .i64 0]) (by simp [results, Try.results22, go_sem, fv, *]) rfl
    ⟨_, _, rfl, own_set5 HO2.out HZ.out,
      grown_trans (grown_alloc HG2.out _) (set5_grown _ _ _ _ _ _ _) (by intro g e hlt; injection e with e; omega)⟩

set_option maxRecDepth 100000 in
set_option maxHeartbeats 1000000 in
theorem iFeed_bad (f : Fr.F) (t : ByteArray) (w : World) (hm : f.buf.length ≤ 1048576) (ht : t.size ≤ 65536) (hok : Fr.iOK f = false) :
    Calls Try.prog 23 #[fv f, .string t] w (FeedTo w Fr.F.zero [] 1) := by
  have HK := Lib.hid hok
  have hb : decide ((t.size : Int) ≤ 65536) = true := by simp; omega
  clear hok
  unfold fv
  go_enter Try.func23, Try.ntmps23
  go_wp2_with (first | (go_at_call 28; refine (isText_any _ _).mono ?_; rintro e1 w1 ⟨rfl, rfl⟩) | (go_at_call 13; go_must (refine (iFramerOK_any f _ hm).mono ?_; rw [HK.out]; rintro e1 w1 ⟨rfl, hg1⟩; have H2 := Lib.hid (two_boxes (f := f) (z := Fr.F.zero) hg1); have hfa := H2.out.2.1.all; have hfb := H2.out.1.all; clear hg1)))
  exact bodyPost_ret (v := .tuple #[fv Fr.F.zero, .slice none 0 0, .int .i64 1]) (by simp [results, Try.results23, go_sem, fv, Fr.F.zero, *]) rfl
    ⟨_, _, rfl, Own.nil _ _ _ _, grown_trans H2.out.2.2 (set5_grown _ _ _ _ _ _ _) (by intro g e hlt; injection e with e; omega)⟩

set_option maxRecDepth 100000 in
set_option maxHeartbeats 1000000 in
theorem iFeed_closed (buf : List UInt8) (d : Int) (q k : Bool) (t : ByteArray) (w : World) (hm : buf.length ≤ 1048576) (ht : t.size ≤ 65536) (hok : Fr.iOK ⟨buf, d, q, k, true⟩ = true) :
    Calls Try.prog 23 #[fv ⟨buf, d, q, k, true⟩, .string t] w (FeedTo w ⟨buf, d, q, k, true⟩ [] 17) := by
  have HK := Lib.hid hok
  have hb : decide ((t.size : Int) ≤ 65536) = true := by simp; omega
  clear hok
  unfold fv
  go_enter Try.func23, Try.ntmps23
  go_wp2_with (first | (go_at_call 28; refine (isText_any _ _).mono ?_; rintro e1 w1 ⟨rfl, rfl⟩) | (go_at_call 13; go_must (refine (iFramerOK_any ⟨buf, d, q, k, true⟩ _ hm).mono ?_; rw [HK.out]; rintro e1 w1 ⟨rfl, hg1⟩; have H2 := Lib.hid (two_boxes (f := ⟨buf, d, q, k, true⟩) (z := Fr.F.zero) hg1); have hfa := H2.out.2.1.all; have hfb := H2.out.1.all; clear hg1)))
  exact bodyPost_ret (v := .tuple #[fv ⟨buf, d, q, k, true⟩, .slice none 0 0, .int .i64 17]) (by simp [results, Try.results23, go_sem, fv, *]) rfl
    ⟨_, _, rfl, Own.nil _ _ _ _, grown_trans H2.out.2.2 (set5_grown _ _ _ _ _ _ _) (by intro g e hlt; injection e with e; omega)⟩

set_option maxRecDepth 100000 in
set_option maxHeartbeats 1000000 in
theorem iFeed_open (buf : List UInt8) (d : Int) (q k : Bool) (t : ByteArray) (w : World) (hm : buf.length ≤ 1048576) (ht : t.size ≤ 65536) (hok : Fr.iOK ⟨buf, d, q, k, false⟩ = true) (hgood : Fr.F.ok ⟨buf, d, q, k, false⟩) (fs : Fr.IS) (b' : List UInt8) (d' : Int) (q' s' c' : Bool)
    (h : Fr.iFeed ⟨buf, d, q, k, false⟩ t.data.toList = fs) (hd : fs.done = ⟨b', d', q', s', c'⟩) :
    Calls Try.prog 23 #[fv ⟨buf, d, q, k, false⟩, .string t] w (FeedTo w ⟨b', d', q', s', c'⟩ fs.out 0) := by
  have HK := Lib.hid hok
  have HH := Lib.hid h
  have HD := Lib.hid hd
  have HOK := Lib.hid (show Fr.IS.ok ⟨⟨d, q, k, false⟩, buf, []⟩ from hgood)
  have HBS := Lib.hid (show (⟨buf.toArray⟩ : ByteArray).size ≤ 3000 from by
    show buf.toArray.size ≤ 3000
    rcases hgood with h | h
    · simp at h
    · have := h.2.2.1
      simpa using this)
  have hb : decide ((t.size : Int) ≤ 65536) = true := by simp; omega
  clear hok h hgood hd
  unfold fv
  go_enter Try.func23, Try.ntmps23
  go_wp2_with (first | (go_at_call 28; refine (isText_any _ _).mono ?_; rintro e1 w1 ⟨rfl, rfl⟩) | (go_at_call 13; go_must (refine (iFramerOK_any ⟨buf, d, q, k, false⟩ _ hm).mono ?_; rw [HK.out]; rintro e1 w1 ⟨rfl, hg1⟩; have H2 := Lib.hid (two_boxes (f := ⟨buf, d, q, k, false⟩) (z := Fr.F.zero) hg1); have hfa := H2.out.2.1.all; have hfb := H2.out.1.all; clear hg1)) | (go_at_call 29; go_must (refine (feed_as w.heap.size ⟨buf.toArray⟩ ⟨d, q, k, false⟩ t _ H2.out.1 (by omega) HBS.out HOK.out fs HH.out).mono ?_; rw [HD.out]; rintro e1 w2 ⟨a2, cp2, rfl, ho2, hg2, hf2⟩; have HO2 := Lib.hid (ho2.weak H2.out.2.2.size); have HZ := Lib.hid (H2.out.2.1.grown_ hg2 (by intro h; injection h with h; omega)); have HG2 := Lib.hid (grown_trans H2.out.2.2 hg2 (by intro g e hlt; injection e with e; omega)); clear hfa hfb ho2 hg2; have hfc := HZ.out.all; have hfd := hf2.all; clear hf2)))
  exact bodyPost_ret (v := .tuple #[fv ⟨b', d', q', s', c'⟩, .slice a2 fs.out.length cp2, .int .i64 0]) (by simp [results, Try.results23, go_sem, fv, *]) rfl
    ⟨_, _, rfl, HO2.out.grown (set5_grown _ _ _ _ _ _ _) (.inr (Own.ne_row HO2.out HZ.out.row_ (by decide))),
      grown_trans HG2.out (set5_grown _ _ _ _ _ _ _) (by intro g e hlt; injection e with e; omega)⟩

end Go.Proofs.Ytopebociobgmhaa

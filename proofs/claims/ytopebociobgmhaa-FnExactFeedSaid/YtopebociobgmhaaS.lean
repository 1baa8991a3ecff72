/-
  The law FnExactFeed, walked.
-/
import Derived.Test.YtopebociobgmhaaQ
namespace Go.Proofs.Ytopebociobgmhaa
open Go.RowKit

theorem feed_gen (f : Fr.F) (t : ByteArray) (hm : f.buf.length ≤ 1048576) (ht : t.size ≤ 1048576) :
    ∃ (b0 : List UInt8) (d0 : Int) (q0 s0 c0 : Bool) (oss : List ByteArray) (code : Int), oss.length ≤ 1048576 ∧
      (∀ (w : World), Calls Try.prog 22 #[fv f, .string t] w fun e w' => ∃ a' c', e = .returned (.tuple #[(.agg #[.string ⟨b0.toArray⟩, .int .i64 d0, .bool q0, .bool s0, .bool c0]), .slice a' oss.length c', .int .i64 code]) ∧
        Own w' w.heap.size 9 1 (.slice a' oss.length c') oss.length (tv oss) ∧ w.grownBy w' none) ∧
      (∀ (w : World), Calls Try.prog 23 #[fv f, .string t] w fun e w' => ∃ a' c', e = .returned (.tuple #[(.agg #[.string ⟨b0.toArray⟩, .int .i64 d0, .bool q0, .bool s0, .bool c0]), .slice a' oss.length c', .int .i64 code]) ∧
        Own w' w.heap.size 9 1 (.slice a' oss.length c') oss.length (tv oss) ∧ w.grownBy w' none) := by
  have key : ∃ (x : Fr.F) (out : List (List UInt8)) (code : Int), out.length ≤ 1048576 ∧ (∀ w, Calls Try.prog 22 #[fv f, .string t] w (FeedTo w x out code)) ∧ (∀ w, Calls Try.prog 23 #[fv f, .string t] w (FeedTo w x out code)) := by
    by_cases h1 : 65536 < t.size
    · exact ⟨_, _, _, by simp, fun w => sFeed_long f t w h1 ht, fun w => iFeed_long f t w h1 ht⟩
    · cases hi : Fr.iOK f
      · exact ⟨_, _, _, by simp, fun w => sFeed_bad f t w hm (by omega) (by rw [Fr.ok_alike]; exact hi), fun w => iFeed_bad f t w hm (by omega) hi⟩
      · have hs : Fr.sOK f = true := by rw [Fr.ok_alike]; exact hi
        have hg := iOK_good f hi
        obtain ⟨buf, d, q, k, c⟩ := f
        cases c
        · have ha := Fr.feed_alike ⟨buf, d, q, k, false⟩ t.data.toList hg.1 hg.2
          have hl := Fr.iFold_len t.data.toList ⟨⟨d, q, k, false⟩, buf, []⟩
          have hl2 : t.data.toList.length = t.size := by simp
          refine ⟨(Fr.iFeed ⟨buf, d, q, k, false⟩ t.data.toList).done, (Fr.iFeed ⟨buf, d, q, k, false⟩ t.data.toList).out, 0, ?_, fun w => sFeed_open buf d q k t w hm (by omega) hs hg.1 _ _ _ _ _ _ ha.1, fun w => iFeed_open buf d q k t w hm (by omega) hi hg.1 _ _ _ _ _ _ rfl rfl⟩
          have hl3 : (Fr.iFeed ⟨buf, d, q, k, false⟩ t.data.toList).out.length ≤ 0 + t.data.toList.length := hl
          omega
        · exact ⟨_, _, _, by simp, fun w => sFeed_closed buf d q k t w hm (by omega) hs, fun w => iFeed_closed buf d q k t w hm (by omega) hi⟩
  obtain ⟨⟨b0, d0, q0, s0, c0⟩, out, code, hl, hS, hI⟩ := key
  refine ⟨b0, d0, q0, s0, c0, bsOf out, code, by rw [bs_len]; exact hl, fun w => ?_, fun w => ?_⟩
  · refine (hS w).mono ?_
    rintro e w' ⟨a', c', h1, h2, h3⟩
    rw [sv_bs] at h2
    rw [bs_len]
    exact ⟨a', c', h1, h2, h3⟩
  · refine (hI w).mono ?_
    rintro e w' ⟨a', c', h1, h2, h3⟩
    rw [sv_bs] at h2
    rw [bs_len]
    exact ⟨a', c', h1, h2, h3⟩

/-- What the law holds, in the world as it is. -/
structure LFt (w0 wx : World) (oss x4 : List ByteArray) (v2 v4 : Value) (g4 g8 : Nat) (f : Fr.F) : Prop where
  o2 : Own wx w0.heap.size 9 1 v2 oss.length (tv oss)
  o4 : Own wx w0.heap.size 9 1 v4 oss.length (tv x4)
  f4 : FAt wx g4 f
  f8 : FAt wx g8 f
  gr : w0.grownBy wx none
  n24 : v2.ownBlock = none ∨ v2.ownBlock ≠ v4.ownBlock

section
variable {w0 wx wy : World} {oss x4 y : List ByteArray} {v2 v4 : Value} {g4 g8 : Nat} {f : Fr.F}
theorem LFt.step (h : LFt w0 wx oss x4 v2 v4 g4 g8 f) (hg : wx.grownBy wy none) : LFt w0 wy oss x4 v2 v4 g4 g8 f :=
  ⟨h.o2.none_ hg, h.o4.none_ hg, FrAt.grown_ h.f4 hg (by simp), FrAt.grown_ h.f8 hg (by simp), grown_trans h.gr hg (by simp), h.n24⟩
theorem LFt.mark4 (h : LFt w0 wx oss x4 v2 v4 g4 g8 f) (hg : wx.grownBy wy v4.ownBlock) (ho : Own wy w0.heap.size 9 1 v4 oss.length (tv y)) : LFt w0 wy oss y v2 v4 g4 g8 f :=
  ⟨h.o2.grown hg h.n24, ho, FrAt.grown_ h.f4 hg (h.o4.ne_row h.f4.row_ (by decide)).symm, FrAt.grown_ h.f8 hg (h.o4.ne_row h.f8.row_ (by decide)).symm, grown_trans h.gr hg (h.o4.no_old _ (Nat.le_refl _)), h.n24⟩
end

theorem LFt.init {w0 w1 w2 w3 w4 : World} {oss : List ByteArray} {a2 a4 : Option Addr} {c2 c4 : Nat} (f : Fr.F) (hg1 : w0.grownBy w1 none)
    (ho2 : Own w2 w1.heap.size 9 1 (.slice a2 oss.length c2) oss.length (tv oss)) (hg2 : w0.grownBy w2 none)
    (hg3 : (w2.alloc (.cells #[.string ⟨f.buf.toArray⟩, .int .i64 f.depth, .bool f.quote, .bool f.skip, .bool f.closed] 29)).grownBy w3 none) (ho4 : Own w4 w3.heap.size 9 1 (.slice a4 oss.length c4) oss.length (tv oss)) (hg4 : w3.grownBy w4 none) :
    LFt w0 (w4.alloc (.cells #[.string ⟨f.buf.toArray⟩, .int .i64 f.depth, .bool f.quote, .bool f.skip, .bool f.closed] 29)) oss oss (.slice a2 oss.length c2) (.slice a4 oss.length c4) w2.heap.size w4.heap.size f := by
  have k1 := World.grownBy_alloc w2 (.cells #[.string ⟨f.buf.toArray⟩, .int .i64 f.depth, .bool f.quote, .bool f.skip, .bool f.closed] 29) none
  have k2 := World.grownBy_alloc w4 (.cells #[.string ⟨f.buf.toArray⟩, .int .i64 f.depth, .bool f.quote, .bool f.skip, .bool f.closed] 29) none
  have k3 := grown_trans hg3 hg4 (by simp)
  have k4 := grown_trans k3 k2 (by simp)
  have k5 := grown_trans k1 k4 (by simp)
  have s1 := hg1.size
  have s2 := hg2.size
  have s3 := k1.size
  have s4 := hg3.size
  have m24 := ho2.ne_late ho4 (Nat.le_trans s3 s4)
  exact ⟨(ho2.none_ k5).weak s1, (ho4.none_ k2).weak (Nat.le_trans s2 (Nat.le_trans s3 s4)), FrAt.grown_ (FAt.new w2 f) k4 (by simp), FAt.new w4 f, grown_trans hg2 k5 (by simp), m24.1⟩

set_option maxRecDepth 100000 in
set_option maxHeartbeats 2000000 in
theorem lawFeed_any (f : Fr.F) (t : ByteArray) (w : World) (hm : f.buf.length ≤ maxLen) (_ht : t.size ≤ maxLen) :
    Calls Try.prog 6 #[fv f, .string t] w fun e w' => e = .returned (.bool true) ∧ w.grownBy w' none := by
  by_cases h0 : 1048576 < t.size
  · unfold fv
    go_enter Try.func6, Try.ntmps6
    go_wp2_with fail
    go_ret
    exact ⟨rfl, World.grownBy_alloc w _ none⟩
  · by_cases h1 : 1048576 < f.buf.length
    · unfold fv
      go_enter Try.func6, Try.ntmps6
      go_wp2_with fail
      refine (szFramer_not f _ _ hm (by omega) (by omega) (by omega)).mono ?_; rintro e1 w1 ⟨rfl, hg⟩
      have HG := Lib.hid hg
      clear hg
      go_wp2_with fail
      go_ret
      exact ⟨rfl, grown_trans (World.grownBy_alloc w _ none) HG.out (by simp)⟩
    · obtain ⟨b0, d0, q0, s0, c0, oss, code, hol, hS, hI⟩ := feed_gen f t (by omega) (by omega)
      have HS := Lib.hid hS
      have HI := Lib.hid hI
      have hon : oss.length ≤ 1073741824 := by omega
      have hom : oss.length ≤ maxLen := by unfold maxLen; omega
      have hpos : 0 ≤ (1048576 : Int) - f.buf.length := by omega
      clear hS hI hm
      unfold fv
      go_enter Try.func6, Try.ntmps6
      go_wp2_with fail
      refine (szFramer_fits f _ _ (by omega) (by omega)).mono ?_; rintro e1 w1 ⟨rfl, hg⟩
      have HG := Lib.hid hg
      have hbx := box5 HG.out
      clear hg
      go_wp2_with fail
      refine (toFramer_any f _).mono ?_; rintro e1 w1 ⟨rfl, hg⟩
      have HG1 := Lib.hid (grown_trans HG.out hg (by simp))
      clear HG hbx hg
      go_wp2_with fail
      refine (HS.out _).mono ?_; rintro e1 w2 ⟨a2, c2, rfl, ho2, hg2⟩
      have HO2 := Lib.hid ho2
      have HG2 := Lib.hid (grown_trans HG1.out hg2 (by simp))
      clear ho2 hg2
      have HG2a := Lib.hid (grown_alloc HG2.out (.cells #[.string ⟨b0.toArray⟩, .int .i64 d0, .bool q0, .bool s0, .bool c0] 29))
      have hbx := box5 HG2a.out
      go_wp2_with fail
      refine (toFramer_any f _).mono ?_; rintro e1 w3 ⟨rfl, hg3⟩
      have HG3 := Lib.hid hg3
      clear hg3 hbx HG2a
      go_wp2_with fail
      refine (HI.out _).mono ?_; rintro e1 w4 ⟨a4, c4, rfl, ho4, hg4⟩
      have HO4 := Lib.hid ho4
      have HG4 := Lib.hid hg4
      clear ho4 hg4
      have ST0 := Lib.hid (LFt.init (⟨b0, d0, q0, s0, c0⟩ : Fr.F) HG1.out HO2.out HG2.out HG3.out HO4.out HG4.out)
      clear HO2 HG1 HG2 HG3 HO4 HG4
      have hca := ST0.out.f4.all
      go_wp2_with fail
      refine (eqFramer_yes (⟨b0, d0, q0, s0, c0⟩ : Fr.F) _).mono ?_; rintro e1 wx ⟨rfl, hg⟩
      have ST1 := Lib.hid (ST0.out.step hg)
      clear ST0 hg hca
      go_wp2_with fail
      refine (eqStringS_yes a4 a2 c4 c2 oss _ hom ST1.out.o4.lies_ ST1.out.o2.lies_).mono ?_; rintro e1 wx ⟨rfl, hg⟩
      have ST2 := Lib.hid (ST1.out.step hg)
      clear ST1 hg 
      go_wp2_with fail
      refine (markStringS_any _ oss.length c4 1 a4 _ _ hon (Nat.le_refl _) (by omega) ST2.out.o4).mono ?_; rintro e1 wx ⟨rfl, ho, hg⟩
      have ST3 := Lib.hid (ST2.out.mark4 hg ho)
      clear ST2 hg ho
      go_wp2_with fail
      refine (heldStringS_yes a4 oss.length c4 1 _ hon (Nat.le_refl _) (by omega) ST3.out.o4.lies_).mono ?_; rintro e1 wx ⟨rfl, hg⟩
      have ST4 := Lib.hid (ST3.out.step hg)
      clear ST3 hg 
      have hbx := box5 ST4.out.gr
      go_wp2_with fail
      refine (toFramer_any f _).mono ?_; rintro e1 wx ⟨rfl, hg⟩
      have ST5 := Lib.hid (ST4.out.step hg)
      clear ST4 hg hbx
      go_wp2_with fail
      refine (HI.out _).mono ?_; rintro e1 wz ⟨a8, c8, rfl, ho8, hg⟩
      have HO8 := Lib.hid (ho8.alloc (.cells #[.string ⟨b0.toArray⟩, .int .i64 d0, .bool q0, .bool s0, .bool c0] 29))
      have ST6 := Lib.hid ((ST5.out.step hg).step (World.grownBy_alloc wz (.cells #[.string ⟨b0.toArray⟩, .int .i64 d0, .bool q0, .bool s0, .bool c0] 29) none))
      clear ST5 hg ho8
      have hca := ST6.out.f4.all
      go_wp2_with fail
      refine (eqFramer_yes (⟨b0, d0, q0, s0, c0⟩ : Fr.F) _).mono ?_; rintro e1 wx ⟨rfl, hg⟩
      have HO9 := Lib.hid (HO8.out.none_ hg)
      have ST7 := Lib.hid (ST6.out.step hg)
      clear ST6 hg hca HO8
      go_wp2_with fail
      refine (eqStringS_yes a8 a2 c8 c2 oss _ hom HO9.out.lies_ ST7.out.o2.lies_).mono ?_; rintro e1 wx ⟨rfl, hg⟩
      have ST8 := Lib.hid (ST7.out.step hg)
      clear ST7 hg HO9
      go_wp2_with fail
      refine (heldStringS_yes a4 oss.length c4 1 _ hon (Nat.le_refl _) (by omega) ST8.out.o4.lies_).mono ?_; rintro e1 wx ⟨rfl, hg⟩
      have ST9 := Lib.hid (ST8.out.step hg)
      clear ST8 hg 
      go_wp2_with fail
      go_ret
      exact ⟨rfl, grown_trans (World.grownBy_alloc w _ none) ST9.out.gr (by simp)⟩

end Go.Proofs.Ytopebociobgmhaa

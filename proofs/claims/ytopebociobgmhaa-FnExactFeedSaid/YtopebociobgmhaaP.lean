/-
  The law FnExactFeedAll, walked.
-/
import Derived.Test.YtopebociobgmhaaO
namespace Go.Proofs.Ytopebociobgmhaa
open Go.RowKit

set_option maxRecDepth 100000 in
set_option maxHeartbeats 400000 in
theorem sFeedAll_long2 (a : Option Addr) (c n : Nat) (w : World) (h : 4096 < n) (hn : n ≤ 1048576) :
    Calls Try.prog 15 #[.slice a n c] w fun e w' => e = .returned (.tuple #[fv Fr.F.zero, .slice (some ⟨w.heap.size + 1, 0, none⟩) 0 0, .int .i64 2]) ∧ Own w' w.heap.size 9 1 (.slice (some ⟨w.heap.size + 1, 0, none⟩) 0 0) 0 [] ∧ w.grownBy w' none := by
  go_enter Try.func15, Try.ntmps15
  go_wp2_with fail
  exact bodyPost_ret (v := .tuple #[fv Fr.F.zero, .slice (some ⟨w.heap.size + 1, 0, none⟩) 0 0, .int .i64 2]) (by simp [results, Try.results15, go_sem, fv, Fr.F.zero]) rfl ⟨rfl, Own.made_ _ 0 #[] (by simp) (by simp) (by simp [maxLen]) rfl, grown_alloc (grown_alloc (grown_refl _ _) _) _⟩

def bsOf (l : List (List UInt8)) : List ByteArray := l.map fun s => ⟨s.toArray⟩
theorem sv_bs (l : List (List UInt8)) : sv l = tv (bsOf l) := by simp [sv, tv, bsOf]
theorem bs_len (l : List (List UInt8)) : (bsOf l).length = l.length := by simp [bsOf]

theorem feedAll_gen (ss : List ByteArray) (hs : ss.length + sumT ss ≤ 1048576) :
    ∃ (b0 : List UInt8) (d0 : Int) (q0 s0 c0 : Bool) (oss : List ByteArray) (code : Int), oss.length ≤ 1048576 ∧
      (∀ (a : Option Addr) (c : Nat) (w : World), Lies w a (tv ss) → Calls Try.prog 15 #[.slice a ss.length c] w fun e w' => ∃ a' c', e = .returned (.tuple #[(.agg #[.string ⟨b0.toArray⟩, .int .i64 d0, .bool q0, .bool s0, .bool c0]), .slice a' oss.length c', .int .i64 code]) ∧
        Own w' w.heap.size 9 1 (.slice a' oss.length c') oss.length (tv oss) ∧ w.grownBy w' none) ∧
      (∀ (a : Option Addr) (c : Nat) (w : World), Lies w a (tv ss) → Calls Try.prog 17 #[.slice a ss.length c] w fun e w' => ∃ a' c', e = .returned (.tuple #[(.agg #[.string ⟨b0.toArray⟩, .int .i64 d0, .bool q0, .bool s0, .bool c0]), .slice a' oss.length c', .int .i64 code]) ∧
        Own w' w.heap.size 9 1 (.slice a' oss.length c') oss.length (tv oss) ∧ w.grownBy w' none) := by
  by_cases hn : 4096 < ss.length
  · refine ⟨[], 0, false, false, false, [], 2, by simp, fun a c w _ => ?_, fun a c w _ => ?_⟩
    · refine (sFeedAll_long2 a c ss.length w hn (by omega)).mono ?_
      rintro e w' ⟨h1, h2, h3⟩
      exact ⟨_, _, h1, h2, h3⟩
    · refine (iFeedAll_long a c ss.length w hn (by omega)).mono ?_
      rintro e w' ⟨h1, h3⟩
      exact ⟨_, _, h1, Own.nil _ _ _ _, h3⟩
  · have ha := Fr.all_alike ss ⟨Fr.F.zero, []⟩ Fr.zero_good
    have hl := Fr.iAll_len ss ⟨Fr.F.zero, []⟩
    generalize hi : ss.foldl Fr.iOne ⟨Fr.F.zero, []⟩ = st at ha hl
    obtain ⟨⟨b0, d0, q0, s0, c0⟩, out⟩ := st
    refine ⟨b0, d0, q0, s0, c0, bsOf out, 0, by rw [bs_len]; simp only [List.length_nil] at hl; omega, fun a c w h => ?_, fun a c w h => ?_⟩
    · refine (sFeedAll_any a c ss w h (by omega) (by omega) b0 d0 q0 s0 c0 out ha.1).mono ?_
      rintro e w' ⟨a', c', h1, h2, h3⟩
      rw [sv_bs] at h2
      rw [bs_len]
      exact ⟨a', c', h1, h2, h3⟩
    · refine (iFeedAll_any a c ss w h (by omega) (by omega) b0 d0 q0 s0 c0 out hi).mono ?_
      rintro e w' ⟨a', c', h1, h2, h3⟩
      rw [sv_bs] at h2
      rw [bs_len]
      exact ⟨a', c', h1, h2, h3⟩

theorem Own.none_ {w w' : World} {lo : Nat} {e : TypeId} {size : Nat} {v : Value} {n : Nat} {xs : List Value} (h : Own w lo e size v n xs) (hg : w.grownBy w' none) : Own w' lo e size v n xs :=
  h.grown hg (by cases v.ownBlock <;> simp)
theorem Own.weak {w : World} {lo lo' : Nat} {e : TypeId} {size : Nat} {v : Value} {n : Nat} {xs : List Value} (h : Own w lo e size v n xs) (hl : lo' ≤ lo) : Own w lo' e size v n xs := by
  refine ⟨h.1, ?_⟩
  rcases h.2 with hn | ⟨g, cap, cur, hv, hb, rest⟩
  · exact .inl hn
  · exact .inr ⟨g, cap, cur, hv, Nat.le_trans hl hb, rest⟩
theorem Own.ne_late {w w' : World} {lo lo' : Nat} {e e' : TypeId} {size size' : Nat} {v v' : Value} {n n' : Nat} {xs xs' : List Value} (h : Own w lo e size v n xs) (h' : Own w' lo' e' size' v' n' xs') (hl : w.heap.size ≤ lo') :
    (v.ownBlock = none ∨ v.ownBlock ≠ v'.ownBlock) ∧ (v'.ownBlock = none ∨ v'.ownBlock ≠ v.ownBlock) := by
  cases hv : v.ownBlock with
  | none => exact ⟨.inl rfl, by cases v'.ownBlock <;> simp⟩
  | some g =>
    cases hv' : v'.ownBlock with
    | none => exact ⟨.inr (by simp), .inl rfl⟩
    | some g' =>
      have h1 := (h.lt g hv).2
      have h2 := (h'.lt g' hv').1
      exact ⟨.inr (by simp; omega), .inr (by simp; omega)⟩

/-- What the law holds, in the world as it is: the reference's texts (2), the argument's copy (3), the program's texts (4), the two framers. -/
structure LSt (w0 wx : World) (ss oss x3 x4 : List ByteArray) (a : Option Addr) (v2 v3 v4 : Value) (g4 g8 : Nat) (f : Fr.F) : Prop where
  li : Lies wx a (tv ss)
  o2 : Own wx w0.heap.size 9 1 v2 oss.length (tv oss)
  o3 : Own wx w0.heap.size 9 1 v3 ss.length (tv x3)
  o4 : Own wx w0.heap.size 9 1 v4 oss.length (tv x4)
  f4 : FAt wx g4 f
  f8 : FAt wx g8 f
  gr : w0.grownBy wx none
  n23 : v2.ownBlock = none ∨ v2.ownBlock ≠ v3.ownBlock
  n43 : v4.ownBlock = none ∨ v4.ownBlock ≠ v3.ownBlock
  n24 : v2.ownBlock = none ∨ v2.ownBlock ≠ v4.ownBlock
  n34 : v3.ownBlock = none ∨ v3.ownBlock ≠ v4.ownBlock
  low : ∀ ad, a = some ad → tv ss = [] ∨ ad.block < w0.heap.size

section
variable {w0 wx wy : World} {ss oss x3 x4 y : List ByteArray} {a : Option Addr} {v2 v3 v4 : Value} {g4 g8 : Nat} {f : Fr.F}
theorem LSt.step (h : LSt w0 wx ss oss x3 x4 a v2 v3 v4 g4 g8 f) (hg : wx.grownBy wy none) : LSt w0 wy ss oss x3 x4 a v2 v3 v4 g4 g8 f :=
  ⟨h.li.grown hg (by simp), h.o2.none_ hg, h.o3.none_ hg, h.o4.none_ hg, FrAt.grown_ h.f4 hg (by simp), FrAt.grown_ h.f8 hg (by simp), grown_trans h.gr hg (by simp), h.n23, h.n43, h.n24, h.n34, h.low⟩
theorem LSt.li_mark (h : LSt w0 wx ss oss x3 x4 a v2 v3 v4 g4 g8 f) {v : Value} {n : Nat} {xs : List Value} (ho : Own wx w0.heap.size 9 1 v n xs) (hg : wx.grownBy wy v.ownBlock) : Lies wy a (tv ss) := by
  rcases h.li with hn | ⟨ad, rfl, hb, hc⟩
  · exact .inl hn
  · rcases h.low ad rfl with hn | hlt
    · exact .inl hn
    · exact Lies.grown (.inr ⟨ad, rfl, hb, hc⟩) hg (fun ad' e h2 => by injection e with e; subst e; have := (ho.lt _ h2).1; omega)
theorem LSt.mark3 (h : LSt w0 wx ss oss x3 x4 a v2 v3 v4 g4 g8 f) (hg : wx.grownBy wy v3.ownBlock) (ho : Own wy w0.heap.size 9 1 v3 ss.length (tv y)) : LSt w0 wy ss oss y x4 a v2 v3 v4 g4 g8 f :=
  ⟨h.li_mark h.o3 hg, h.o2.grown hg h.n23, ho, h.o4.grown hg h.n43, FrAt.grown_ h.f4 hg (h.o3.ne_row h.f4.row_ (by decide)).symm, FrAt.grown_ h.f8 hg (h.o3.ne_row h.f8.row_ (by decide)).symm, grown_trans h.gr hg (h.o3.no_old _ (Nat.le_refl _)), h.n23, h.n43, h.n24, h.n34, h.low⟩
theorem LSt.mark4 (h : LSt w0 wx ss oss x3 x4 a v2 v3 v4 g4 g8 f) (hg : wx.grownBy wy v4.ownBlock) (ho : Own wy w0.heap.size 9 1 v4 oss.length (tv y)) : LSt w0 wy ss oss x3 y a v2 v3 v4 g4 g8 f :=
  ⟨h.li_mark h.o4 hg, h.o2.grown hg h.n24, h.o3.grown hg h.n34, ho, FrAt.grown_ h.f4 hg (h.o4.ne_row h.f4.row_ (by decide)).symm, FrAt.grown_ h.f8 hg (h.o4.ne_row h.f8.row_ (by decide)).symm, grown_trans h.gr hg (h.o4.no_old _ (Nat.le_refl _)), h.n23, h.n43, h.n24, h.n34, h.low⟩
end

theorem Lies.low {w : World} {a : Option Addr} {xs : List Value} (h : Lies w a xs) : ∀ ad, a = some ad → xs = [] ∨ ad.block < w.heap.size := by
  intro ad e
  rcases h with h | ⟨ad', e', hb, _⟩
  · exact .inl h
  · rw [e] at e'; injection e' with e'; subst e'; exact .inr hb

theorem LSt.init {w w1 w2 w3 w4 : World} {ss oss : List ByteArray} {a a2 a4 : Option Addr} {c2 c4 g3 : Nat} (f : Fr.F) (hl : Lies w a (tv ss)) (hg0 : w.grownBy w1 none)
    (ho2 : Own w2 w1.heap.size 9 1 (.slice a2 oss.length c2) oss.length (tv oss)) (hg2 : w.grownBy w2 none)
    (ho3 : Own w3 (w2.alloc (.cells #[.string ⟨f.buf.toArray⟩, .int .i64 f.depth, .bool f.quote, .bool f.skip, .bool f.closed] 29)).heap.size 9 1 (.slice (some ⟨g3, 0, none⟩) ss.length ss.length) ss.length (tv ss))
    (hg3 : (w2.alloc (.cells #[.string ⟨f.buf.toArray⟩, .int .i64 f.depth, .bool f.quote, .bool f.skip, .bool f.closed] 29)).grownBy w3 none)
    (ho4 : Own w4 w3.heap.size 9 1 (.slice a4 oss.length c4) oss.length (tv oss)) (hg4 : w3.grownBy w4 none) :
    LSt w (w4.alloc (.cells #[.string ⟨f.buf.toArray⟩, .int .i64 f.depth, .bool f.quote, .bool f.skip, .bool f.closed] 29)) ss oss ss oss a
      (.slice a2 oss.length c2) (.slice (some ⟨g3, 0, none⟩) ss.length ss.length) (.slice a4 oss.length c4) w2.heap.size w4.heap.size f := by
  have k1 := World.grownBy_alloc w2 (.cells #[.string ⟨f.buf.toArray⟩, .int .i64 f.depth, .bool f.quote, .bool f.skip, .bool f.closed] 29) none
  have k2 := World.grownBy_alloc w4 (.cells #[.string ⟨f.buf.toArray⟩, .int .i64 f.depth, .bool f.quote, .bool f.skip, .bool f.closed] 29) none
  have k3 := grown_trans hg3 hg4 (by simp)
  have k4 := grown_trans k3 k2 (by simp)
  have k5 := grown_trans k1 k4 (by simp)
  have k6 := grown_trans hg4 k2 (by simp)
  have s1 := hg0.size
  have s2 := hg2.size
  have s3 := k1.size
  have s4 := hg3.size
  have m23 := ho2.ne_late ho3 s3
  have m24 := ho2.ne_late ho4 (Nat.le_trans s3 s4)
  have m34 := ho3.ne_late ho4 (Nat.le_refl _)
  exact ⟨hl.grown (grown_trans hg2 k5 (by simp)) (by simp), (ho2.none_ k5).weak s1, (ho3.none_ k6).weak (Nat.le_trans s2 s3), (ho4.none_ k2).weak (Nat.le_trans s2 (Nat.le_trans s3 s4)),
    FrAt.grown_ (FAt.new w2 f) k4 (by simp), FAt.new w4 f, grown_trans hg2 k5 (by simp), m23.1, m34.2, m24.1, m34.1, hl.low⟩

set_option maxRecDepth 100000 in
set_option maxHeartbeats 2000000 in
theorem lawFeedAll_any (a : Option Addr) (c : Nat) (ss : List ByteArray) (w : World) (h : Lies w a (tv ss)) (hm : ∀ s ∈ ss, s.size ≤ maxLen) (hn : ss.length ≤ maxLen) :
    Calls Try.prog 5 #[.slice a ss.length c] w fun e w' => e = .returned (.bool true) ∧ w.grownBy w' none := by
  have HLi := Lib.hid h
  have HM := Lib.hid hm
  clear h hm
  by_cases hfit : ss.length + sumT ss ≤ 1048576
  · obtain ⟨b0, d0, q0, s0, c0, oss, code, hol, hS, hI⟩ := feedAll_gen ss hfit
    have HS := Lib.hid hS
    have HI := Lib.hid hI
    have hn1 : ss.length ≤ 1073741824 := by omega
    have hon : oss.length ≤ 1073741824 := by omega
    have hnm : ss.length ≤ maxLen := hn
    have hom : oss.length ≤ maxLen := by unfold maxLen; omega
    have hpos : 0 ≤ (1048576 : Int) - ss.length - sumT ss := by omega
    clear hS hI hn
    go_enter Try.func5, Try.ntmps5
    go_wp2_with fail
    refine (szStringS_fits a c ss _ _ HLi.out (by omega) (by omega)).mono ?_; rintro e1 w1 ⟨rfl, rfl⟩
    go_wp2_with fail
    refine (toStringS_any a c ss _ hn1 HLi.out).mono ?_; rintro e1 w1 ⟨g0, rfl, ho0, hg0⟩
    have HO0 := Lib.hid ho0
    have HG0 := Lib.hid hg0
    clear ho0 hg0
    go_wp2_with fail
    refine (HS.out _ _ _ HO0.out.lies_).mono ?_; rintro e1 w2 ⟨a2, c2, rfl, ho2, hg2⟩
    have HO2 := Lib.hid ho2
    have HG2 := Lib.hid (grown_trans HG0.out hg2 (by simp))
    have HLb := Lib.hid (Nat.le_trans HG0.out.size (Nat.le_refl _))
    clear ho2 hg2
    go_wp2_with fail
    refine (toStringS_any a c ss _ hn1 (HLi.out.grown (grown_alloc HG2.out _) (by simp))).mono ?_; rintro e1 w3 ⟨g3, rfl, ho3, hg3⟩
    have HO3 := Lib.hid ho3
    have HG3 := Lib.hid hg3
    clear ho3 hg3
    go_wp2_with fail
    refine (HI.out _ _ _ HO3.out.lies_).mono ?_; rintro e1 w4 ⟨a4, c4, rfl, ho4, hg4⟩
    have HO4 := Lib.hid ho4
    have HG4 := Lib.hid hg4
    clear ho4 hg4
    have ST0 := Lib.hid (LSt.init (⟨b0, d0, q0, s0, c0⟩ : Fr.F) HLi.out HG0.out HO2.out HG2.out HO3.out HG3.out HO4.out HG4.out)
    clear HO0 HG0 HO2 HG2 HO3 HG3 HO4 HG4 HLb
    have hca := ST0.out.f4.all
    go_wp2_with fail
    refine (eqFramer_yes (⟨b0, d0, q0, s0, c0⟩ : Fr.F) _).mono ?_; rintro e1 wx ⟨rfl, hg⟩
    have ST1 := Lib.hid (ST0.out.step hg)
    clear ST0 hg hca
    go_wp2_with fail
    refine (eqStringS_yes a4 a2 c4 c2 oss _ hom ST1.out.o4.lies_ ST1.out.o2.lies_).mono ?_; rintro e1 wx ⟨rfl, hg⟩
    have ST2 := Lib.hid (ST1.out.step hg)
    clear ST1 hg
    go_wp2_with fail
    refine (toStringS_any a c ss _ hn1 ST2.out.li).mono ?_; rintro e1 wx ⟨g6, rfl, ho6, hg⟩
    have HO6 := Lib.hid ho6
    have ST3 := Lib.hid (ST2.out.step hg)
    clear ST2 hg ho6
    go_wp2_with fail
    refine (eqStringS_yes (some ⟨g3, 0, none⟩) (some ⟨g6, 0, none⟩) ss.length ss.length ss _ hnm ST3.out.o3.lies_ HO6.out.lies_).mono ?_; rintro e1 wx ⟨rfl, hg⟩
    have ST4 := Lib.hid (ST3.out.step hg)
    clear ST3 hg
    clear HO6
    go_wp2_with fail
    refine (markStringS_any w.heap.size ss.length ss.length 1 (some ⟨g3, 0, none⟩) _ _ hn1 (Nat.le_refl _) (by omega) ST4.out.o3).mono ?_; rintro e1 wx ⟨rfl, ho, hg⟩
    have ST5 := Lib.hid (ST4.out.mark3 hg ho)
    clear ST4 hg ho
    have hca := ST5.out.f4.all
    have hcb := ST5.out.f8.all
    go_wp2_with fail
    clear hcb
    refine (eqFramer_yes (⟨b0, d0, q0, s0, c0⟩ : Fr.F) _).mono ?_; rintro e1 wx ⟨rfl, hg⟩
    have ST6 := Lib.hid (ST5.out.step hg)
    clear ST5 hg hca
    go_wp2_with fail
    refine (eqStringS_yes a4 a2 c4 c2 oss _ hom ST6.out.o4.lies_ ST6.out.o2.lies_).mono ?_; rintro e1 wx ⟨rfl, hg⟩
    have ST7 := Lib.hid (ST6.out.step hg)
    clear ST6 hg
    go_wp2_with fail
    refine (markStringS_any w.heap.size oss.length c4 1 a4 _ _ hon (Nat.le_refl _) (by omega) ST7.out.o4).mono ?_; rintro e1 wx ⟨rfl, ho, hg⟩
    have ST8 := Lib.hid (ST7.out.mark4 hg ho)
    clear ST7 hg ho
    go_wp2_with fail
    refine (heldStringS_yes a4 oss.length c4 1 _ hon (Nat.le_refl _) (by omega) ST8.out.o4.lies_).mono ?_; rintro e1 wx ⟨rfl, hg⟩
    have ST9 := Lib.hid (ST8.out.step hg)
    clear ST8 hg
    go_wp2_with fail
    refine (toStringS_any a c ss _ hn1 ST9.out.li).mono ?_; rintro e1 wx ⟨g7, rfl, ho7, hg⟩
    have HO7 := Lib.hid ho7
    have ST10 := Lib.hid (ST9.out.step hg)
    clear ST9 hg ho7
    go_wp2_with fail
    refine (HI.out _ _ _ HO7.out.lies_).mono ?_; rintro e1 wz ⟨a8, c8, rfl, ho8, hg⟩
    have HO8 := Lib.hid (ho8.alloc (.cells #[.string ⟨b0.toArray⟩, .int .i64 d0, .bool q0, .bool s0, .bool c0] 29))
    have ST11 := Lib.hid ((ST10.out.step hg).step (World.grownBy_alloc wz (.cells #[.string ⟨b0.toArray⟩, .int .i64 d0, .bool q0, .bool s0, .bool c0] 29) none))
    clear ST10 hg ho8 HO7
    have hca := ST11.out.f4.all
    go_wp2_with fail
    refine (eqFramer_yes (⟨b0, d0, q0, s0, c0⟩ : Fr.F) _).mono ?_; rintro e1 wx ⟨rfl, hg⟩
    have HO9 := Lib.hid (HO8.out.none_ hg)
    have ST12 := Lib.hid (ST11.out.step hg)
    clear ST11 hg hca HO8
    go_wp2_with fail
    refine (eqStringS_yes a8 a2 c8 c2 oss _ hom HO9.out.lies_ ST12.out.o2.lies_).mono ?_; rintro e1 wx ⟨rfl, hg⟩
    have ST13 := Lib.hid (ST12.out.step hg)
    clear ST12 hg
    clear HO9
    go_wp2_with fail
    refine (heldStringS_yes a4 oss.length c4 1 _ hon (Nat.le_refl _) (by omega) ST13.out.o4.lies_).mono ?_; rintro e1 wx ⟨rfl, hg⟩
    have ST14 := Lib.hid (ST13.out.step hg)
    clear ST13 hg
    go_wp2_with fail
    go_ret
    exact ⟨rfl, ST14.out.gr⟩
  · go_enter Try.func5, Try.ntmps5
    go_wp2_with fail
    refine (szStringS_not a c ss _ _ HLi.out HM.out hn (by omega) (by omega) (by omega)).mono ?_; rintro e1 w1 ⟨rfl, rfl⟩
    go_wp2_with fail
    go_ret
    exact ⟨rfl, grown_refl _ _⟩

end Go.Proofs.Ytopebociobgmhaa

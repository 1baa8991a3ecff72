/-
  Contracts of the two FrameText, and the law.
-/
import Derived.Test.YtopebociobgmhaaD
import Derived.Test.YtopebociobgmhaaG
import Derived.Deep.QuietTactic
namespace Go.Proofs.Ytopebociobgmhaa
open Go.RowKit

theorem l02Feed_as (f : Fr.F) (t : ByteArray) (w : World) (ht : t.size ≤ 1048576) (hok : f.ok) (b' : List UInt8) (d' : Int) (q' s' c' : Bool) (out : List (List UInt8))
    (h : t.data.toList.foldl Fr.sStep ⟨f, []⟩ = ⟨⟨b', d', q', s', c'⟩, out⟩) :
    Calls Try.prog 27 #[fv f, .string t] w fun e w' => ∃ a c, e = .returned (.tuple #[.agg #[.string ⟨b'.toArray⟩, .int .i64 d', .bool q', .bool s', .bool c'], .slice a out.length c]) ∧
      Own w' w.heap.size 9 1 (.slice a out.length c) out.length (sv out) ∧ w.grownBy w' none := by
  refine (l02Feed_any f t w ht hok).mono ?_
  rintro e w' ⟨v, h1, h2, h3⟩
  rw [h] at h1 h2
  obtain ⟨a, c, rfl⟩ := h2.form
  exact ⟨a, c, h1, h2, h3⟩

theorem feed_as (g : Nat) (s0 : ByteArray) (f : Fr.G) (t : ByteArray) (w : World) (hf : FrAt w g s0 f) (ht : t.size ≤ 1048576) (hs : s0.size ≤ 3000) (hok : Fr.IS.ok ⟨f, s0.data.toList, []⟩) (st : Fr.IS)
    (h : t.data.toList.foldl Fr.iStep ⟨f, s0.data.toList, []⟩ = st) :
    Calls Try.prog 29 #[.pointer (some ⟨g, 0, none⟩), .string t] w fun e w' => ∃ a c, e = .returned (.slice a st.out.length c) ∧
      Own w' w.heap.size 9 1 (.slice a st.out.length c) st.out.length (sv st.out) ∧ w.grownBy w' (some g) ∧ FrAt w' g ⟨st.done.buf.toArray⟩ ⟨st.done.depth, st.done.quote, st.done.skip, st.done.closed⟩ := by
  refine (feed_any g s0 f t w hf ht hs hok).mono ?_
  rintro e w' ⟨v, h1, h2, h3, h4⟩
  rw [h] at h2 h4
  obtain ⟨a, c, rfl⟩ := h2.form
  exact ⟨a, c, h1, h2, h3, h4⟩

set_option maxRecDepth 100000 in
set_option maxHeartbeats 400000 in
theorem sFrameText_long (t : ByteArray) (w : World) (h : 65536 < t.size) (ht : t.size ≤ 1048576) :
    Calls Try.prog 8 #[.string t] w fun e w' => e = .returned (.tuple #[.int .i64 0, .bool false, .int .i64 2]) ∧ w = w' := by
  go_enter Try.func8, Try.ntmps8
  go_wp2_with fail
  go_ret3
  exact ⟨rfl, rfl⟩

set_option maxRecDepth 100000 in
set_option maxHeartbeats 400000 in
theorem sFrameText_short (t : ByteArray) (w : World) (ht : t.size ≤ 65536) (b' : List UInt8) (d' : Int) (q' s' c' : Bool) (out : List (List UInt8))
    (h : t.data.toList.foldl Fr.sStep ⟨Fr.F.zero, []⟩ = ⟨⟨b', d', q', s', c'⟩, out⟩) :
    Calls Try.prog 8 #[.string t] w fun e w' => e = .returned (.tuple #[.int .i64 out.length, .bool c', .int .i64 0]) ∧ w.grownBy w' none := by
  have HH := Lib.hid h
  clear h
  go_enter Try.func8, Try.ntmps8
  go_wp2_with (go_at_call 27; refine (l02Feed_as Fr.F.zero t _ (by omega) Fr.F.zero_ok b' d' q' s' c' out HH.out).mono ?_; rintro e1 w1 ⟨a1, cp1, rfl, ho1, hg1⟩; have HO1 := Lib.hid ho1; have HG1 := Lib.hid hg1; clear ho1 hg1)
  go_quiet (fail)
  go_wp2_with fail
  go_ret3
  refine ⟨rfl, ?_⟩
  exact grown_drewN (grown_alloc HG1.out _) _

set_option maxRecDepth 100000 in
set_option maxHeartbeats 400000 in
theorem iFrameText_long (t : ByteArray) (w : World) (h : 65536 < t.size) (ht : t.size ≤ 1048576) :
    Calls Try.prog 9 #[.string t] w fun e w' => e = .returned (.tuple #[.int .i64 0, .bool false, .int .i64 2]) ∧ w = w' := by
  have hb : decide ((t.size : Int) ≤ 65536) = false := by simp; omega
  go_enter Try.func9, Try.ntmps9
  go_wp2_with (go_at_call 28; refine (isText_any _ _).mono ?_; rintro e1 w1 ⟨rfl, rfl⟩)
  go_ret3
  exact ⟨rfl, rfl⟩

set_option maxRecDepth 100000 in
set_option maxHeartbeats 400000 in
theorem iFrameText_short (t : ByteArray) (w : World) (ht : t.size ≤ 65536) (st : Fr.IS)
    (h : t.data.toList.foldl Fr.iStep ⟨⟨0, false, false, false⟩, [], []⟩ = st) :
    Calls Try.prog 9 #[.string t] w fun e w' => e = .returned (.tuple #[.int .i64 st.out.length, .bool st.done.closed, .int .i64 0]) ∧ w.grownBy w' none := by
  have HH := Lib.hid h
  clear h
  have hb : decide ((t.size : Int) ≤ 65536) = true := by simp; omega
  go_enter Try.func9, Try.ntmps9
  go_wp2_with (first | (go_at_call 28; refine (isText_any _ _).mono ?_; rintro e1 w1 ⟨rfl, rfl⟩) | (go_at_call 29; go_must (refine (feed_as w.heap.size ⟨#[]⟩ ⟨0, false, false, false⟩ t _ (heap_alloc_new w _) (by omega) (by decide) (Fr.F.zero_ok) st HH.out).mono ?_; rintro e1 w1 ⟨a1, cp1, rfl, ho1, hg1, hf1⟩; have c4 := hf1.cell4; have HG1 := Lib.hid hg1; clear ho1 hg1 hf1)))
  go_quiet (fail)
  go_wp2_with fail
  go_ret3
  refine ⟨rfl, ?_⟩
  exact grown_drewN (grown_trans (World.grownBy_alloc w _ none) HG1.out (by intro g e hlt; injection e with e; omega)) _

end Go.Proofs.Ytopebociobgmhaa

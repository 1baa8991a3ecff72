/-
  The law FnExactFrameText, walked.
-/
import Derived.Test.YtopebociobgmhaaH
namespace Go.Proofs.Ytopebociobgmhaa
open Go.RowKit

set_option maxRecDepth 100000 in
set_option maxHeartbeats 400000 in
theorem lawFrameText_any (t : ByteArray) (w : World) :
    Calls Try.prog 3 #[.string t] w fun e w' => e = .returned (.bool true) ∧ w.grownBy w' none := by
  by_cases h1 : 1048576 < t.size
  · go_enter Try.func3, Try.ntmps3
    go_wp2_with fail
    go_ret
    exact ⟨rfl, grown_refl _ _⟩
  · by_cases h2 : 65536 < t.size
    · go_enter Try.func3, Try.ntmps3
      go_wp2_with (first | (go_at_call 8; refine (sFrameText_long t _ h2 (by omega)).mono ?_; rintro e1 w1 ⟨rfl, rfl⟩) | (go_at_call 9; refine (iFrameText_long t _ h2 (by omega)).mono ?_; rintro e1 w1 ⟨rfl, rfl⟩))
      go_ret
      exact ⟨rfl, grown_refl _ _⟩
    · have ha := (Fr.feed_alike Fr.F.zero t.data.toList Fr.F.zero_ok (by simp [Fr.F.zero])).1
      unfold Fr.sFeed at ha
      have HA := Lib.hid ha
      clear ha
      go_enter Try.func3, Try.ntmps3
      go_wp2_with (first | (go_at_call 8; refine (sFrameText_short t _ (by omega) _ _ _ _ _ _ HA.out).mono ?_; rintro e1 w1 ⟨rfl, hg1⟩; have HG1 := Lib.hid hg1; clear hg1) | (go_at_call 9; refine (iFrameText_short t _ (by omega) (Fr.iFeed Fr.F.zero t.data.toList) rfl).mono ?_; rintro e1 w2 ⟨rfl, hg2⟩; have HG2 := Lib.hid hg2; clear hg2))
      go_ret
      exact ⟨rfl, grown_trans HG1.out HG2.out (by simp)⟩

end Go.Proofs.Ytopebociobgmhaa

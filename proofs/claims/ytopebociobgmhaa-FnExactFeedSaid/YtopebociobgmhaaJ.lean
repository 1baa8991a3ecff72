/-
  Contracts of the two FramerOK, and the law.
-/
import Derived.Test.YtopebociobgmhaaH
namespace Go.Proofs.Ytopebociobgmhaa
open Go.RowKit

namespace Fr
def sOK (f : F) : Bool :=
  if f.closed then f.buf == [] && f.depth == 0 && !f.quote && !f.skip
  else if f.buf == [] then f.depth == 0 && !f.quote && !f.skip
  else (f.buf.foldl sStep ⟨F.zero, []⟩).out.length == 0 && decide ((f.buf.foldl sStep ⟨F.zero, []⟩).f = f)
def iOK (f : F) : Bool :=
  if f.closed then decide (f = F.shut)
  else if 3000 < f.buf.length then false
  else (iFeed F.zero f.buf).out.length == 0 && decide ((iFeed F.zero f.buf).done = f)

theorem ok_alike (f : F) : sOK f = iOK f := by
  have ha := feed_alike F.zero f.buf F.zero_ok (by simp [F.zero])
  have hd := F.done_ok _ ha.2
  have h1 : f.buf.foldl sStep ⟨F.zero, []⟩ = ⟨(iFeed F.zero f.buf).done, (iFeed F.zero f.buf).out⟩ := ha.1
  unfold sOK iOK
  rw [h1]
  obtain ⟨buf, d, q, k, c⟩ := f
  cases c
  · simp only [Bool.false_eq_true, if_false]
    by_cases hl : 3000 < buf.length
    · have hne : buf ≠ [] := by rintro rfl; simp at hl
      simp only [hl, if_true]
      rw [if_neg (by simpa using hne)]
      have : ¬ (iFeed F.zero buf).done = ⟨buf, d, q, k, false⟩ := by
        intro e
        rcases hd.1 with h | h
        · rw [e] at h; simp at h
        · rw [e] at h; simp at h; omega
      simp [this]
    · simp only [hl, if_false]
      by_cases hb : buf = []
      · subst hb
        cases q <;> cases k <;> simp [iFeed, IS.done, F.zero, eq_comm, Bool.beq_eq_decide_eq]
      · rw [if_neg (by simpa using hb)]
  · cases q <;> cases k <;> simp [F.shut, Bool.and_comm] <;> cases buf <;> simp [Bool.beq_eq_decide_eq]
end Fr

end Go.Proofs.Ytopebociobgmhaa

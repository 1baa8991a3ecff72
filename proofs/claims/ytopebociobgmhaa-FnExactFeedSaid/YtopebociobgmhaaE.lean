/-
  Contracts of the reference's byte (joined) and feed.
-/
import Derived.Test.YtopebociobgmhaaC
namespace Go.Proofs.Ytopebociobgmhaa
open Go.RowKit

theorem l02Byte_any (f : Fr.F) (b : UInt8) (w : World) (hok : f.ok) (hc : f.closed = false) :
    Calls Try.prog 34 #[fv f, .int .u8 b.toNat] w (LBPost f b w) := by
  obtain ⟨buf, d, q, k, c⟩ := f
  simp only at hc
  subst hc
  rcases hok with h | ⟨hd0, hd, hs, hz, _⟩
  · simp at h
  simp only at hd0 hd hs hz
  cases e0 : (d == 0)
  · cases hl : decide (3000 < (buf.length : Int) + 1)
    · cases k
      · cases q
        · cases e34 : ((b.toNat : Int) == 34)
          · cases e123 : ((b.toNat : Int) == 123)
            · cases e91 : ((b.toNat : Int) == 91)
              · cases e125 : ((b.toNat : Int) == 125)
                · cases e93 : ((b.toNat : Int) == 93)
                  · exact l02Byte_other buf d _ _ b w hd0 hd hs e0 hl rfl rfl e34 e123 e91 e125 e93
                  · exact l02Byte_out93 buf d _ _ b w hd0 hd hs e0 hl rfl rfl e34 e123 e91 e125 e93
                · exact l02Byte_out125 buf d _ _ b w hd0 hd hs e0 hl rfl rfl e34 e123 e91 e125
              · cases h12 : decide (12 < d + 1)
                · exact l02Byte_in91 buf d _ _ b w hd0 hd hs e0 hl rfl rfl e34 e123 e91 h12
                · exact l02Byte_deep91 buf d _ _ b w hd0 hd hs e0 hl rfl rfl e34 e123 e91 h12
            · cases h12 : decide (12 < d + 1)
              · exact l02Byte_in123 buf d _ _ b w hd0 hd hs e0 hl rfl rfl e34 e123 h12
              · exact l02Byte_deep123 buf d _ _ b w hd0 hd hs e0 hl rfl rfl e34 e123 h12
          · exact l02Byte_n34 buf d _ _ b w hd0 hd hs e0 hl rfl rfl e34
        · cases e92 : ((b.toNat : Int) == 92)
          · cases e34 : ((b.toNat : Int) == 34)
            · exact l02Byte_qother buf d _ _ b w hd0 hd hs e0 hl rfl rfl e92 e34
            · exact l02Byte_q34 buf d _ _ b w hd0 hd hs e0 hl rfl rfl e92 e34
          · exact l02Byte_q92 buf d _ _ b w hd0 hd hs e0 hl rfl rfl e92
      · exact l02Byte_skip buf d _ _ b w hd0 hd hs e0 hl rfl
    · exact l02Byte_long buf d _ _ b w hd0 hd hs e0 hl
  · have hd' : d = 0 := by simpa using e0
    obtain ⟨hb, hq, hk⟩ := hz hd'
    cases b32 : ((b.toNat : Int) == 32)
    · cases b9 : ((b.toNat : Int) == 9)
      · cases b10 : ((b.toNat : Int) == 10)
        · cases b13 : ((b.toNat : Int) == 13)
          · have hl : decide (3000 < (buf.length : Int) + 1) = false := by simp [hb]
            have h12 : decide (12 < d + 1) = false := by simp [hd']
            cases n123 : ((b.toNat : Int) != 123)
            · have e123 : ((b.toNat : Int) == 123) = true := by simpa [bne] using n123
              have e34 : ((b.toNat : Int) == 34) = false := by simp at e123 ⊢; omega
              exact l02Byte_open123 buf d _ _ b w hd0 hd hs e0 b32 b9 b10 b13 n123 hl hq hk e34 h12 e123
            · cases n91 : ((b.toNat : Int) != 91)
              · have e91 : ((b.toNat : Int) == 91) = true := by simpa [bne] using n91
                have e123 : ((b.toNat : Int) == 123) = false := by simpa [bne] using n123
                have e34 : ((b.toNat : Int) == 34) = false := by simp at e91 ⊢; omega
                exact l02Byte_open91 buf d _ _ b w hd0 hd hs e0 b32 b9 b10 b13 n123 n91 hl hq hk e34 h12 e123 e91
              · exact l02Byte_shut buf d _ _ b w hd0 hd hs e0 b32 b9 b10 b13 n123 n91
          · exact l02Byte_blank13 buf d _ _ b w hd0 hd hs e0 b32 b9 b10 b13
        · exact l02Byte_blank10 buf d _ _ b w hd0 hd hs e0 b32 b9 b10
      · exact l02Byte_blank9 buf d _ _ b w hd0 hd hs e0 b32 b9
    · exact l02Byte_blank32 buf d _ _ b w hd0 hd hs e0 b32

end Go.Proofs.Ytopebociobgmhaa

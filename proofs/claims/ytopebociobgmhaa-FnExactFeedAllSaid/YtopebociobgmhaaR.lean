/-
  A slice of texts that came in as an argument.
-/
import Derived.Test.YtopebociobgmhaaK
import Derived.ProofKit
import Derived.SliceStrings
namespace Go.Proofs.Ytopebociobgmhaa
open Go.RowKit Go.WideShapes Go.ChangeShapes Go.ChangeShapes

theorem texts_of {H : Type} {enc : TypeId × Value → H} {w : World} {base : Nat} {spare : Nat → Bool} {held : Bool} {v : Value} {d : DataW H} {p : List MemPlace} {a0 : Option Addr} {l0 c0 : Nat}
    (hv : v = .slice a0 l0 c0) (h : DataW.Trod enc Try.prog w base spare held 32 v d p) :
    ∃ (a : Option Addr) (c : Nat) (ss : List ByteArray), v = .slice a ss.length c ∧ Lies w a (tv ss) ∧ (∀ s ∈ ss, s.size ≤ maxLen) ∧ ss.length ≤ maxLen := by
  subst hv
  have c9 : Try.prog.cellsOf 9 = 1 := by kernel_rfl
  obtain ⟨fuel, hf⟩ := h
  rcases open_strings Try.underlying32 Try.underlying9 c9 hf with ⟨hcs, _⟩ | ⟨ad, len, cap, ss, hcs, _, hl, hm, hlen, _, hcell, hws⟩
  · simp [Value.cells] at hcs
    obtain ⟨rfl, rfl, rfl⟩ := hcs
    exact ⟨none, 0, [], rfl, .inl rfl, by simp, Nat.zero_le _⟩
  · simp [Value.cells] at hcs
    obtain ⟨rfl, rfl, rfl⟩ := hcs
    have hle : l0 ≤ ss.length := by rw [hlen]; split <;> omega
    have hln : (ss.take l0).length = l0 := by rw [List.length_take]; omega
    refine ⟨some ad, c0, ss.take l0, by rw [hln], ?_, fun s hs => hws s (List.mem_of_mem_take hs), by rw [hln]; omega⟩
    by_cases h0 : l0 = 0
    · subst h0; exact .inl (by simp [tv])
    · have hc0 := hcell 0 (by omega)
      have hb := World.block_lt_of_cell? w _ hc0
      have hbl : (ad.add 0).block = ad.block := by unfold Addr.add; split <;> rfl
      rw [hbl] at hb
      refine .inr ⟨ad, rfl, hb, fun j u hu => ?_⟩
      have hj : j < (ss.take l0).length := by
        have := (List.getElem?_eq_some_iff.1 hu).1
        simpa [tv] using this
      rw [tv_at _ j hj] at hu
      injection hu with hu
      subst hu
      rw [hcell j (by omega)]
      simp [List.getD_eq_getElem?_getD, List.getElem?_eq_getElem (show j < ss.length by omega)]

end Go.Proofs.Ytopebociobgmhaa

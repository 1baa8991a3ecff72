/-
  The law FnInsert returns true; arguments that are slices of bytes.
-/
import Derived.Test.YtlimecojoiimaaaGreatCf00
import Derived.Test.YtlimecojoiimaaaGreatCf01
import Derived.Test.YtlimecojoiimaaaGreatCf10
import Derived.Test.YtlimecojoiimaaaGreatCf11
import Derived.ProofKit
import Derived.ChangeSlices
namespace Go.Proofs.YtlimecojoiimaaaGreat
open Go.RowKit Go.WideShapes Go.ChangeShapes

theorem law_ok (l m : List UInt8) : FnOK Tryz.prog fLaw [sls encByte l, sls encByte m] [] ⟨.bool true, [], []⟩ := by
  have h1 := atF_bd l 0 (n := 2) (by omega)
  have h2 := atF_bd m 0 (n := 2) (by omega)
  have c1 : atF l 0 2 = 0 ∨ atF l 0 2 = 1 := by omega
  have c2 : atF m 0 2 = 0 ∨ atF m 0 2 = 1 := by omega
  rcases c1 with c1 | c1 <;> rcases c2 with c2 | c2
  · exact law00_ok l m c1 c2
  · exact law01_ok l m c1 c2
  · exact law10_ok l m c1 c2
  · exact law11_ok l m c1 c2

/-- All that stood before the call. -/
def Old (w : World) : Nat → Prop := fun k => k < w.heap.size

theorem evo_grown {I : Nat → Prop} {w w' : World} {X : Nat → Prop} (h : Evo I w w' X) (hX : ∀ k, ¬ X k) : w.grownBy w' none := ⟨h.os, h.tape, h.output, h.size, fun k hk _ => h.block k hk (hX k)⟩

theorem FnOK.said {P : Program} {f : FuncId} {vs : List V} {vals : Array Value} {w : World} (h : FnOK P f vs [] ⟨.bool true, [], []⟩) (hv : V.RL P (Old w) noMu w vs vals.toList) :
    Calls P f vals w fun e w' => e = .returned (.bool true) ∧ w.grownBy w' none := by
  refine (h.2 (Old w) w noMu vals hv ⟨fun k hk => hk, by simp, by simp, fun _ _ _ => rfl⟩ (fun b g hb => by cases hb)).mono ?_
  rintro e w' ⟨val, μ', I', rfl, hR, hG⟩
  simp only [V.R] at hR
  subst hR
  exact ⟨rfl, evo_grown hG.evo fun k hk => by obtain ⟨b, hb, _⟩ := hk; simp at hb⟩

theorem row_at {w : World} {a : Addr} {l : List V} {f : Nat → Value} {n : Nat} (hs : a.spot = none) (hn : 0 < n) (hc : ∀ i, i < n → w.cell? (a.add i) = some (f i)) :
    ∃ cells e fr, w.heap[a.block]? = some (.cells cells e fr) ∧ ∀ i, i < n → cells[a.off + i]? = some (f i) := by
  have h0 := hc 0 hn
  have hb : ∀ i, (a.add i) = ⟨a.block, a.off + i, none⟩ := by
    intro i
    unfold Addr.add
    split
    · rename_i h; subst h; obtain ⟨b, o, s⟩ := a; simp only at hs; subst hs; rfl
    · rfl
  rw [hb 0] at h0
  unfold World.cell? at h0
  split at h0
  · rename_i cells e fr hh
    refine ⟨cells, e, fr, hh, fun i hi => ?_⟩
    have h1 := hc i hi
    rw [hb i] at h1
    unfold World.cell? at h1
    rw [hh] at h1
    simpa using h1
  · cases h0

theorem RL_byts {P : Program} {I : Nat → Prop} {μ : Mu} {w : World} : ∀ l : List UInt8, V.RL P I μ w (encs encByte l) (l.map fun b => Value.int .u8 (b.toNat : Nat))
  | [] => by simp [encs, V.RL]
  | b :: l => by
    have : encs encByte (b :: l) = .int .u8 (b.toNat : Nat) :: encs encByte l := rfl
    rw [this, List.map_cons]
    simp only [V.RL, V.R]
    exact ⟨_, _, rfl, rfl, RL_byts l⟩

set_option maxRecDepth 100000 in
theorem bytes_of {H : Type} {enc : TypeId × Value → H} {w : World} {base base0 : Nat} {spare : Nat → Bool} {held : Bool} {v : Value} {d : DataW H} {p : List MemPlace}
    (hok : Value.okWide Tryz.prog w .any base0 22 v) (h : DataW.Trod enc Tryz.prog w base spare held 22 v d p) :
    ∃ l : List UInt8, V.R Tryz.prog (Old w) noMu w (sls encByte l) v := by
  obtain ⟨a0, l0, c0, rfl⟩ := okWide_slice Tryz.underlying22 hok
  have c9 : Tryz.prog.cellsOf 5 = 1 := by kernel_rfl
  obtain ⟨fuel, hf⟩ := h
  rcases open_ints Tryz.underlying22 Tryz.underlying5 c9 hf with ⟨hcs, _⟩ | ⟨ad, len, cap, zs, hcs, _, hl, hm, hlen, _, hcell, hws⟩
  · simp [Value.cells] at hcs
    obtain ⟨rfl, rfl, rfl⟩ := hcs
    refine ⟨[], ?_⟩
    simp only [sls, V.R]
    exact ⟨none, 0, rfl, Nat.le_refl _, fun h => (nomatch h), .inl ⟨rfl, rfl⟩, .inl rfl⟩
  · simp [Value.cells] at hcs
    obtain ⟨rfl, rfl, rfl⟩ := hcs
    have hsp : ad.spot = none := by
      unfold Value.okWide at hok
      rw [Tryz.underlying22] at hok
      simp only [Cell.okWide, Tryz.underlying22, Cell.ok] at hok
      exact hok.2.2.2.1
    have hle : l0 ≤ zs.length := by rw [hlen]; split <;> omega
    let l : List UInt8 := (zs.take l0).map fun z => UInt8.ofNat z.toNat
    have hll : l.length = l0 := by simp only [l, List.length_map, List.length_take]; omega
    refine ⟨l, ?_⟩
    obtain ⟨g, off, s⟩ := ad
    simp only at hsp; subst hsp
    simp only [sls, V.R]
    refine ⟨_, c0, by rw [hll], by omega, fun h => (nomatch h), .inr ⟨g, off, rfl⟩, ?_⟩
    by_cases h0 : l0 = 0
    · left
      have : l = [] := List.eq_nil_of_length_eq_zero (by omega)
      rw [this]; rfl
    · obtain ⟨cells, e, fr, hh, hat⟩ := row_at (l := []) (a := ⟨g, off, none⟩) (n := l0) rfl (by omega) (fun i hi => hcell i (by omega))
      refine .inr ⟨g, off, rfl, (Array.getElem?_eq_some_iff.1 hh).1, cells, e, fr, hh, ?_⟩
      have hval : ((cells.toList.drop off).take (encs encByte l).length) = l.map fun b => Value.int .u8 (b.toNat : Nat) := by
        rw [show (encs encByte l).length = l0 by rw [layByte.length, Nat.mul_one, hll]]
        apply List.ext_getElem?
        intro i
        rw [List.getElem?_take]
        split
        · rename_i hi
          rw [List.getElem?_drop, Array.getElem?_toList, hat i hi]
          have h1 : zs.getD i 0 ∈ zs := by
            rw [List.getD_eq_getElem?_getD, List.getElem?_eq_getElem (by omega)]; exact List.getElem_mem _
          have h2 := hws _ h1
          have h3 : 0 ≤ zs.getD i 0 ∧ zs.getD i 0 ≤ 255 := by
            have : IntKind.u8.min = 0 ∧ IntKind.u8.max = 255 := by decide
            rw [Lit.wf, this.1, this.2, Bool.and_eq_true, decide_eq_true_eq, decide_eq_true_eq] at h2
            exact h2
          have h4 : (l.map fun b => Value.int .u8 (b.toNat : Nat))[i]? = some (.int .u8 (((UInt8.ofNat (zs.getD i 0).toNat).toNat : Nat) : Int)) := by
            simp only [l, List.getElem?_map]
            rw [List.getElem?_take, if_pos hi, List.getD_eq_getElem?_getD, List.getElem?_eq_getElem (by omega)]
            rfl
          rw [h4, UInt8.toNat_ofNat']
          congr 2
          omega
        · rename_i hi
          rw [List.getElem?_eq_none (by simp only [List.length_map]; omega)]
      rw [hval]
      exact RL_byts l

end Go.Proofs.YtlimecojoiimaaaGreat

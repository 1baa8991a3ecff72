/-
  FnInsert: what the library's Clone does with an empty slice.
-/
import Derived.Test.YtlimecojoiimaaaGreatCa
namespace Go.Proofs.YtlimecojoiimaaaGreat
open Go.RowKit

def noExt : CallF := fun _ _ _ => none
def noFz : FuncId → Bool := fun _ => false
abbrev fCloneRow : Nat := 74
abbrev fCloneAtom : Nat := 102
abbrev fCloneStr : Nat := 115

theorem deep_ok {ext : CallF} (hb : Bodied Tryz.prog ext) (hc : CallOK Tryz.prog ext) {n d : Nat} {fz : FuncId → Bool} {f : FuncId} {vs : List V} {hp : Hp} {r : Ret} (h : deepC Tryz.prog ext n fz d f vs hp = some r) : FnOK Tryz.prog f vs hp r :=
  (deepC_ok follows named hb hc d).1 _ _ _ _ h

/-- An own slice without room that is new is as good as nil. -/
theorem FnOK.drop0 {P : Program} {f : FuncId} {vs : List V} {hp' : Hp} {wr : List Nat} (h : FnOK P f vs [] ⟨.sl 0 0 0 true, hp', wr⟩) : FnOK P f vs [] ⟨.dsl 0 true [], [], []⟩ := by
  obtain ⟨ht, hm⟩ := h
  refine ⟨⟨Nat.le_refl _, fun b hb => by simp at hb, fun b hb => by simp at hb, fun b hb => by simp at hb⟩, fun I w μ vals hv pre hdom => ?_⟩
  have hwr : ∀ b, b ∉ wr := fun b hb => by have := ht.wrb b hb; simp at this
  refine (hm I w μ vals hv ⟨pre.ilt, by simp, by simp, fun b hb hb2 => ?_⟩ hdom).mono ?_
  · cases hμ : μ b with
    | none => rfl
    | some g => have := hdom b g hμ; simp at this
  rintro e w' ⟨val, μ', I', he, hR, G⟩
  refine ⟨val, μ, I', he, ?_, ⟨G.isub, fun k hk => ?_, ?_, .refl _, fun b g hg => .inl hg, fun b hb blk h => by simp at h, fun b hb blk h => by simp at h, fun b c b1 b2 g hne hb hc h1 => by simp at h1⟩⟩
  · simp only [V.R] at hR ⊢
    obtain ⟨g, cap, _, _, _, _, h1, h2, _, h3, _⟩ := hR
    exact ⟨_, cap, h1, h2, h3, .inr ⟨g, 0, rfl⟩, .inl trivial⟩
  · rcases G.igrow k hk with h | h | ⟨c, hc, _⟩
    · exact .inl h
    · exact .inr (.inl h)
    · exact absurd hc (hwr c)
  · exact G.evo.mono fun k ⟨b, hb, _⟩ => absurd hb (hwr b)

def isEmp (x : Option Ret) : Bool := match x with
  | some ⟨.sl 0 0 0 true, _, _⟩ => true
  | _ => false
theorem deep0 {ext : CallF} (hb : Bodied Tryz.prog ext) (hc : CallOK Tryz.prog ext) {n d : Nat} {fz : FuncId → Bool} {f : FuncId} {vs : List V} (h : isEmp (deepC Tryz.prog ext n fz d f vs []) = true) : FnOK Tryz.prog f vs [] ⟨.dsl 0 true [], [], []⟩ := by
  unfold isEmp at h
  split at h
  · rename_i hd; exact FnOK.drop0 (deep_ok hb hc hd)
  · cases h

theorem clone0 {f : FuncId} (h1 : FnOK Tryz.prog f [.lit (.slice none 0 0)] [] ⟨.dsl 0 true [], [], []⟩) (h2 : ∀ g off, FnOK Tryz.prog f [.lit (.slice (some ⟨g, off, none⟩) 0 0)] [] ⟨.dsl 0 true [], [], []⟩) :
    FnOK Tryz.prog f [.dsl 0 true []] [] ⟨.dsl 0 true [], [], []⟩ := by
  refine ⟨h1.1, fun I w μ vals hv pre hdom => ?_⟩
  simp only [V.RL, V.R] at hv
  obtain ⟨u, us, hvals, ⟨a, cap, rfl, _, hc, ha, _⟩, rfl⟩ := hv
  obtain rfl : cap = 0 := hc trivial
  rcases ha with ⟨rfl, _⟩ | ⟨g, off, rfl⟩
  · exact h1.2 I w μ vals (by simp only [V.RL, V.R]; exact ⟨_, _, hvals, rfl, rfl⟩) pre hdom
  · exact (h2 g off).2 I w μ vals (by simp only [V.RL, V.R]; exact ⟨_, _, hvals, rfl, rfl⟩) pre hdom

theorem noExt_ok : CallOK Tryz.prog noExt := fun _ _ _ _ h => by cases h
theorem noExt_bodied : Bodied Tryz.prog noExt := fun _ _ _ _ h => by cases h

theorem cloneRow0 : FnOK Tryz.prog fCloneRow [.dsl 0 true []] [] ⟨.dsl 0 true [], [], []⟩ :=
  clone0 (deep_ok (n := 100) (d := 1) (fz := noFz) noExt_bodied noExt_ok (by kernel_rfl)) fun g off => deep0 (n := 100) (d := 1) (fz := noFz) noExt_bodied noExt_ok (by kernel_rfl)
theorem cloneAtom0 : FnOK Tryz.prog fCloneAtom [.dsl 0 true []] [] ⟨.dsl 0 true [], [], []⟩ :=
  clone0 (deep_ok (n := 100) (d := 1) (fz := noFz) noExt_bodied noExt_ok (by kernel_rfl)) fun g off => deep0 (n := 100) (d := 1) (fz := noFz) noExt_bodied noExt_ok (by kernel_rfl)
theorem cloneStr0 : FnOK Tryz.prog fCloneStr [.dsl 0 true []] [] ⟨.dsl 0 true [], [], []⟩ :=
  clone0 (deep_ok (n := 100) (d := 1) (fz := noFz) noExt_bodied noExt_ok (by kernel_rfl)) fun g off => deep0 (n := 100) (d := 1) (fz := noFz) noExt_bodied noExt_ok (by kernel_rfl)

def cloneExt : CallF := fun f vs hp => match Nat.beq f fCloneRow || Nat.beq f fCloneAtom || Nat.beq f fCloneStr, vs, hp with
  | true, [.dsl 0 true []], [] => some ⟨.dsl 0 true [], [], []⟩
  | _, _, _ => none
theorem cloneExt_ok : CallOK Tryz.prog cloneExt := by
  intro f vs hp r h
  unfold cloneExt at h
  split at h
  · rename_i hf
    cases h
    rw [Bool.or_eq_true, Bool.or_eq_true] at hf
    rcases hf with (hf | hf) | hf <;> (obtain rfl := Nat.eq_of_beq_eq_true hf)
    · exact cloneRow0
    · exact cloneAtom0
    · exact cloneStr0
  · cases h
theorem cloneExt_bodied : Bodied Tryz.prog cloneExt := by
  intro f vs hp r h
  unfold cloneExt at h
  split at h
  · rename_i hf
    cases h
    rw [Bool.or_eq_true, Bool.or_eq_true] at hf
    have key : ∀ f : Nat, bodyB Tryz.prog f = true → ∃ fn, Tryz.prog.funcs[f]? = some fn ∧ fn.body.isSome = true := by
      intro f h
      unfold bodyB at h
      split at h
      · rename_i fn hfn; exact ⟨fn, hfn, h⟩
      · cases h
    rcases hf with (hf | hf) | hf <;> (obtain rfl := Nat.eq_of_beq_eq_true hf)
    · exact key _ (by kernel_rfl)
    · exact key _ (by kernel_rfl)
    · exact key _ (by kernel_rfl)
  · cases h

end Go.Proofs.YtlimecojoiimaaaGreat

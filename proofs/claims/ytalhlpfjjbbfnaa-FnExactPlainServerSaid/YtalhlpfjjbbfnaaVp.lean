/-
  The small evaluator: a law without arguments.
-/
import Derived.Test.YtalhlpfjjbbfnaaVo
namespace Go.Proofs.Ytalhlpfjjbbfnaa
open Go.RowKit

def noExt : CallF := fun _ _ _ => none
theorem noExt_ok (P : Program) : CallOK P noExt := fun _ _ _ _ h => (by cases h)
theorem noExt_bodied (P : Program) : Bodied P noExt := fun _ _ _ _ h => (by cases h)

/-- Did it come to 'true'? -/
def isTrue : Option Ret → Bool
  | some ⟨.bool true, _, _⟩ => true
  | _ => false

theorem evo_grown {w w' : World} {X : Nat → Prop} (h : Evo w w' X) (hX : ∀ k, ¬ X k) : w.grownBy w' none := ⟨h.os, h.tape, h.output, h.size, fun k hk _ => h.block k hk (hX k)⟩

theorem law0 {P : Program} (hm : P.follows .mixedOrders = true) (hn : Named P) {callF : CallF} (hc : CallOK P callF) {f : FuncId} (h : isTrue (callF f [] []) = true) (w : World) :
    Calls P f #[] w fun e w' => e = .returned (.bool true) ∧ w.grownBy w' none := by
  cases hr : callF f [] [] with
  | none => rw [hr] at h; cases h
  | some r =>
    rw [hr] at h
    obtain ⟨_, hok⟩ := hc _ _ _ _ hr
    refine (hok w (fun _ => none) #[] (by simp [V.RL]) ⟨by simp, by simp, fun _ _ _ => rfl⟩ (fun b g hb => by cases hb)).mono ?_
    rintro e w' ⟨val, μ', rfl, hR, hG⟩
    obtain ⟨v, hp, wr⟩ := r
    have hv : v = .bool true := by
      unfold isTrue at h
      split at h
      · rename_i e; cases e; rfl
      · cases h
    subst hv
    simp only [V.R] at hR
    subst hR
    exact ⟨rfl, evo_grown hG.evo fun k hk => by obtain ⟨b, _, hb⟩ := hk; cases hb⟩

/-- No function bears the name that the machine answers itself. -/
def namedB (P : Program) : Bool := P.funcs.toList.all fun fn => fn.name != "runtime.NumGoroutine"
theorem named_of {P : Program} (h : namedB P = true) : Named P := by
  intro f fn hf
  have := List.all_eq_true.1 h fn (by
    obtain ⟨hlt, e⟩ := Array.getElem?_eq_some_iff.1 hf
    rw [← e]; simp)
  simpa using this

end Go.Proofs.Ytalhlpfjjbbfnaa

/-
  The law FnQuiet: for every input the call returns true, and each argument reads as it did. No condition beyond the given statement's own.
-/
import Derived.Test.YtlomaojlpodibaaGreatCqAf
import Derived.ProofKit
import Derived.OpenShut
import Derived.ShutString
import Derived.ChangeOld
namespace Go.Proofs.YtlomaojlpodibaaGreat.fnQuiet
open Go.ChangeShapes Go.WideShapes Go.ChangeAt Go.RowKit
open Go.ChangeMaps (open_string shut_string)
theorem own : ownKnob Pz.godebug = none := kz
theorem laidOut : laidOutB Pz = true := kz
set_option maxRecDepth 100000 in
theorem lifted (os : Os) (started : os.Started) (H : Type) (enc : TypeId × Value -> H) :
  ReturnsInHanded {} Tryz.checked os 5 .any (Rows.fnQuietSpec.pre6 enc Pz Tryz.f5 Rows.fnQuietRow.domain false) (Rows.fnQuietSpec.post enc Pz Tryz.f5 false true false false) := by
 refine returnsInHanded_of_change (C := Tryz.checked) own started kz Tryz.func5
  (ChangeSpec.witness6 (enc := enc) (C := Tryz.checked) false ⟨#[], #[.slice none 0 0, .slice none 0 0], []⟩ 8 kz kz kz kz) ?_
 intro W base args ds gs before Mw hW LH _;have xP : ∀ (j : Nat) t v, Tryz.f5.params[j]? = some t -> args[j]? = some v -> Value.okWide Pz W .any base t v := Mw;have WI := hW;obtain ⟨p, q, Lw, hV, rfl, hfz, eP⟩ := hW;have hA : DataW.TrodAll enc Pz W 0 (fun _ => true) true Tryz.f5.params.toList args.toList ds p := Lw;rw [Tryz.params5] at hA xP;obtain ⟨v0, vs0, d0, ds0, p0, q0, fI, rfl, rfl, h0, r0⟩ := trodAll_cons hA;obtain ⟨v1, vs1, d1, ds1, p1, q1, rfl, rfl, rfl, h1, r1⟩ := trodAll_cons r0;obtain ⟨rfl, rfl, rfl⟩ := trodAll_nil r1;obtain rfl : args = #[v0, v1] := by cases args; simp_all
 obtain ⟨rfl, rfl⟩ := trodVars_none hV;have k0 := h0;have lt0 : ∀ x ∈ p0, x.block < W.heap.size := by obtain ⟨m, hm⟩ := k0; exact DataW.trod_lt m _ _ _ hm
 obtain ⟨l0, YK⟩ := JA (xP 0 22 v0 rfl rfl) h0;have k1 := h1;have lt1 : ∀ x ∈ p1, x.block < W.heap.size := by obtain ⟨m, hm⟩ := k1; exact DataW.trod_lt m _ _ _ hm
 obtain ⟨l1, YL⟩ := JA (xP 1 22 v1 rfl rfl) h1;clear Lw Mw;have iL : V.RL Pz (Old W) cf W [ab aP l0, ab aP l1] (#[v0, v1] : Array Value).toList := by
  simp only [V.RL];exact ⟨_, _, rfl, YK, _, _, rfl, YL, rfl⟩
 refine ((ZV l0 l1).said (aR2 W) iL).mono fun e W' ⟨he, hg⟩ => ?_;have DC := Wt hg;subst he;exact ⟨_, rfl, _, _, _, [], _, [], WI, trodAll_mk1 (shut_bool Tryz.underlying4 _), (trodAll_cons_mk (Below.trod laidOut kz (of_decide_eq_true kz) k0 DC lt0) (trodAll_cons_mk (Below.trod laidOut kz (of_decide_eq_true kz) k1 DC lt1) trodAll_mk0)), rfl, DC.frame _, fun h => by cases h⟩
theorem az4 : Rows.fnQuietRow.holds Tryz.pinned (OpenSpec.ofChange Rows.fnQuietSpec) :=
 OpenClaim.holds_of_wide 5 Tryz.f5 rfl rfl rfl rfl rfl rfl rfl ⟨rfl, rfl, rfl, rfl, rfl⟩ rfl rfl rfl rfl rfl kz Tryz.func5 kz
  (of_decide_eq_true kz) (by unfold Func.isWrapper; first | (rw [if_pos (by decide +kernel)]; kernel_rfl) | (rw [if_neg (by decide +kernel)]; exact ⟨rfl, rfl⟩))
  (fun os started H enc _ => lifted os started H enc)
theorem proved : Rows.FnQuietSaid := az4
#print axioms proved
end Go.Proofs.YtlomaojlpodibaaGreat.fnQuiet

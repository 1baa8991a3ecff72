/-
  The law FnConds: for every input the call returns true, and each argument reads as it did. No condition beyond the given statement's own.
-/
import Derived.Test.YtlomaojlpodibaaGreatCyAf
import Derived.ProofKit
import Derived.OpenShut
import Derived.ShutString
import Derived.ChangeOld
namespace Go.Proofs.YtlomaojlpodibaaGreat.fnConds
open Go.ChangeShapes Go.WideShapes Go.ChangeAt Go.RowKit
open Go.ChangeMaps (open_string shut_string)
theorem own : ownKnob Tryz.prog.godebug = none := by kernel_rfl
theorem laidOut : laidOutB Tryz.prog = true := by kernel_rfl
set_option maxRecDepth 100000 in
theorem lifted (os : Os) (started : os.Started) (H : Type) (enc : TypeId × Value -> H) :
  ReturnsInHanded {} Tryz.checked os 3 .any (Rows.fnCondsSpec.pre6 enc Tryz.prog Tryz.f3 Rows.fnCondsRow.domain false) (Rows.fnCondsSpec.post enc Tryz.prog Tryz.f3 false true false false) := by
 refine returnsInHanded_of_change (C := Tryz.checked) own started (by kernel_rfl) Tryz.func3
  (ChangeSpec.witness6 (enc := enc) (C := Tryz.checked) false ⟨#[], #[.slice none 0 0, .slice none 0 0], []⟩ 8 (by kernel_rfl) (by kernel_rfl) (by kernel_rfl) (by kernel_rfl)) ?_
 intro W base args ds gs before Ji hW ak1 _
 have vP : ∀ (j : Nat) t v, Tryz.f3.params[j]? = some t -> args[j]? = some v -> Value.okWide Tryz.prog W .any base t v := Ji
 have Re := hW
 obtain ⟨p, q, Ii, hV, rfl, hfz, eg⟩ := hW
 have hA : DataW.TrodAll enc Tryz.prog W 0 (fun _ => true) true Tryz.f3.params.toList args.toList ds p := Ii
 rw [Tryz.params3] at hA vP
 obtain ⟨v0, vs0, d0, ds0, p0, q0, eX, rfl, rfl, h0, r0⟩ := trodAll_cons hA
 obtain ⟨v1, vs1, d1, ds1, p1, q1, rfl, rfl, rfl, h1, r1⟩ := trodAll_cons r0
 obtain ⟨rfl, rfl, rfl⟩ := trodAll_nil r1
 obtain rfl : args = #[v0, v1] := by cases args; simp_all
 obtain ⟨rfl, rfl⟩ := trodVars_none hV
 have k0 := h0
 have Vx : ∀ x ∈ p0, x.block < W.heap.size := by obtain ⟨m, hm⟩ := k0; exact DataW.trod_lt m _ _ _ hm
 obtain ⟨l0, Tf⟩ := Gw (vP 0 22 v0 rfl rfl) h0
 have k1 := h1
 have Vy : ∀ x ∈ p1, x.block < W.heap.size := by obtain ⟨m, hm⟩ := k1; exact DataW.trod_lt m _ _ _ hm
 obtain ⟨l1, Tg⟩ := Gw (vP 1 22 v1 rfl rfl) h1
 clear Ii Ji
 have gH : V.RL Tryz.prog (Old W) bY W [ab aR l0, ab aR l1] (#[v0, v1] : Array Value).toList := by
  simp only [V.RL]
  exact ⟨_, _, rfl, Tf, _, _, rfl, Tg, rfl⟩
 refine ((Ul l0 l1).said (ag3 W) gH).mono fun e W' ⟨he, hg⟩ => ?_
 have Bt := Q2 hg
 subst he
 exact ⟨_, rfl, _, _, _, [], _, [], Re, trodAll_mk1 (shut_bool Tryz.underlying4 _), (trodAll_cons_mk (Below.trod laidOut (by kernel_rfl) (of_decide_eq_true (by kernel_rfl)) k0 Bt Vx) (trodAll_cons_mk (Below.trod laidOut (by kernel_rfl) (of_decide_eq_true (by kernel_rfl)) k1 Bt Vy) trodAll_mk0)), rfl, Bt.frame _, fun h => by cases h⟩
theorem Yb : Rows.fnCondsRow.holds Tryz.pinned (OpenSpec.ofChange Rows.fnCondsSpec) :=
 OpenClaim.holds_of_wide 3 Tryz.f3 rfl rfl rfl rfl rfl rfl rfl ⟨rfl, rfl, rfl, rfl, rfl⟩ rfl rfl rfl rfl rfl (by kernel_rfl) Tryz.func3 (by kernel_rfl)
  (of_decide_eq_true (by kernel_rfl)) (by unfold Func.isWrapper; first | (rw [if_pos (by decide +kernel)]; kernel_rfl) | (rw [if_neg (by decide +kernel)]; exact ⟨rfl, rfl⟩))
  (fun os started H enc _ => lifted os started H enc)
theorem proved : Rows.FnCondsSaid := Yb
#print axioms proved
end Go.Proofs.YtlomaojlpodibaaGreat.fnConds

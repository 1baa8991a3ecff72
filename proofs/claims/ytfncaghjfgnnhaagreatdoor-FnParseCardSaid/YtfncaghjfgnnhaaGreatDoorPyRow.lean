/-
  The law FnParse: for every input the call returns true, and each argument reads as it did. No condition beyond the given statement's own.
-/
import Derived.Test.YtfncaghjfgnnhaaGreatDoorPyBa
import Derived.Test.YtfncaghjfgnnhaaGreatDoorCards
import Derived.Test.YtfncaghjfgnnhaaGreatDoorTie
import Derived.ProofKit
import Derived.OpenShut
import Derived.ShutString
import Derived.ChangeOld
import Derived.LaidMore
import Derived.Stop.Joined
import Derived.SevenTiedAt
namespace Go.Proofs.YtfncaghjfgnnhaaGreatDoor.fnParse
open Go.ChangeShapes Go.WideShapes Go.ChangeAt Go.RowKit
open Go.ChangeMaps (open_string shut_string)
theorem own : ownKnob Tryz.prog.godebug = none := by kernel_rfl
theorem laidOut : laidOutB Tryz.prog = true := by kernel_rfl
abbrev laidL : List (String × DataW Unit) := [("math/bits.deBruijn32tab", Rows.laid_math_bits_deBruijn32tab), ("math/bits.deBruijn64tab", Rows.laid_math_bits_deBruijn64tab), ("internal/strconv.uint64pow10", Rows.laid_internal_strconv_uint64pow10), ("strconv.ErrRange", Rows.laid_strconv_ErrRange), ("strconv.ErrSyntax", Rows.laid_strconv_ErrSyntax)]
set_option maxRecDepth 100000 in
theorem door_met (os : Os) (args : Array Value) : laidMetH Tryz.prog laidL ((World.doorLaid Tryz.prog 400 os).forCall (fun _ _ => 0) ⟨#[], args, []⟩).memory :=
 laidMetH_of_parts3 (fuel := 8) (laidMet_of_run' 8 (by kernel_rfl) (by kernel_rfl)) (by kernel_rfl) (by kernel_rfl)
theorem iface_of_trod {H : Type} {enc : TypeId × Value → H} {P : Program} {w : World} {b : Nat} {sp : Nat → Bool} {held : Bool} {t : TypeId} {ms : Array (String × TypeId)} {fuel : Nat} {cs : List Value} {n : String} {d : DataW H} {p : List MemPlace}
  (ht : P.underlying t = some (.interface ms)) (h : DataW.trod enc P w b sp held fuel t cs = some (.iface n d, p)) : ∃ u v, cs = [.iface u v] := by
 cases fuel with
 | zero => simp [DataW.trod] at h
 | succ fuel =>
  rcases cs with _ | ⟨x, _ | ⟨y, r⟩⟩
  ·simp [DataW.trod, ht] at h
  ·cases x <;> first | exact ⟨_, _, rfl⟩ | (simp [DataW.trod, ht] at h; done)
  ·simp [DataW.trod, ht] at h
theorem err_cell {W : World} {g : Nat} {n : String} {cs : Array Value} {u : TypeId} {v : Value} (hg : Tryz.prog.globalNamed n = some g) (hvar : W.var? Tryz.prog n = some cs) (h : cs.toList = [.iface u v]) : ∃ ev, W.cell? ⟨g, 0, none⟩ = some ev ∧ (ev = .nilIface ∨ ∃ te pe, ev = .iface te pe) := by
 refine ⟨.iface u v, ?_, .inr ⟨u, v, rfl⟩⟩
 obtain rfl : cs = #[.iface u v] := by cases cs; simp_all
 unfold World.var? at hvar
 rw [hg] at hvar
 simp only [Option.bind_some] at hvar
 unfold World.cell?
 split at hvar
 ·rename_i hh
  simp at hvar
  subst hvar
  simp [hh]
 ·cases hvar
theorem of_laid {W : World} (h : laidMetH Tryz.prog laidL W) : TabsLaid Tryz.prog W := by
 rw [MakeChecks.laidMetH_plain _ _ _ (by kernel_rfl)] at h
 obtain ⟨ps, ⟨_, _, _, _, _, _, _, _, _, _, ⟨_, _, _, _, _, _, _, _, _, _, ⟨g, t, cs, fuel, p, q, hg, ht, hvar, hd, ⟨gR, tR, csR, fuelR, pR, qR, hgR, htR, hvarR, hdR, ⟨gS, tS, csS, fuelS, pS, qS, hgS, htS, hvarS, hdS, _, _⟩, _⟩, _⟩, _⟩, _⟩, _, _⟩ := h
 have e1 : Tryz.prog.globalNamed "internal/strconv.uint64pow10" = some 0 := by kernel_rfl
 have e2 : (Tryz.prog.globals[0]?).map (·.type) = some 159 := by kernel_rfl
 have eR : Tryz.prog.globalNamed "strconv.ErrRange" = some 3 := by kernel_rfl
 have eS : Tryz.prog.globalNamed "strconv.ErrSyntax" = some 2 := by kernel_rfl
 have tyR : (Tryz.prog.globals[3]?).map (·.type) = some 89 := by kernel_rfl
 have tyS : (Tryz.prog.globals[2]?).map (·.type) = some 89 := by kernel_rfl
 refine ⟨fun x hx g' hg' => ?_, fun x hx g' hg' => ?_⟩
 ·simp only [tabs, List.mem_singleton] at hx
  subst hx
  simp only at hg' ⊢
  obtain rfl := Option.some.inj (e1.symm.trans hg')
  obtain rfl := Option.some.inj (e1.symm.trans hg)
  obtain rfl := Option.some.inj (e2.symm.trans ht)
  unfold Lib.TabIs
  rw [hvar, ← Lib.cells_of_tab (n := 20) (zs := Lib.pow10Tab) (k := .u64) Tryz.underlying159 Tryz.underlying127 (by kernel_rfl) (by kernel_rfl) hd]
 ·simp only [errVars, List.mem_cons, List.not_mem_nil, or_false] at hx
  rcases hx with rfl | rfl
  ·obtain rfl := Option.some.inj (eS.symm.trans hg')
   obtain rfl := Option.some.inj (eS.symm.trans hgS)
   obtain rfl := Option.some.inj (tyS.symm.trans htS)
   obtain ⟨u, v, hc⟩ := iface_of_trod Tryz.underlying89 hdS
   exact err_cell eS hvarS hc
  ·obtain rfl := Option.some.inj (eR.symm.trans hg')
   obtain rfl := Option.some.inj (eR.symm.trans hgR)
   obtain rfl := Option.some.inj (tyR.symm.trans htR)
   obtain ⟨u, v, hc⟩ := iface_of_trod Tryz.underlying89 hdR
   exact err_cell eR hvarR hc
set_option maxRecDepth 100000 in
theorem lifted (os : Os) (started : os.Started) (H : Type) (enc : TypeId × Value → H) :
  ReturnsInHanded {} Tryz.checked os 5 .any (fun w args => (Rows.fnParseSpec.pre enc Tryz.prog Tryz.f5 [] false w args ∧ laidMetH Tryz.prog laidL w) ∧ sizedMet enc Tryz.prog Tryz.f5 (OpenSpec.ofChange Rows.fnParseSpec) false w args)
   (Rows.fnParseSpec.post enc Tryz.prog Tryz.f5 false true false false) := by
 refine returnsInHanded_of_change_and (C := Tryz.checked) (X := fun w _ => laidMetH Tryz.prog laidL w) (fun _ _ _ hh h => h.of_heap hh) own started (by kernel_rfl) Tryz.func5
  (ChangeSpec.witness_shaped (enc := enc) (C := Tryz.checked) (os := os) (X := fun w _ => laidMetH Tryz.prog laidL w) false (World.doorLaid Tryz.prog 400 os) #[.slice none 0 0] 8 rfl (World.shaped_of_RefB (by kernel_rfl) (by kernel_rfl)) (by kernel_rfl) (by kernel_rfl) (by kernel_rfl) (door_met os _)) ?_
 intro W base args ds gs before hval0 hW hcnd _ hL _
 have hval : ∀ (j : Nat) t v, Tryz.f5.params[j]? = some t → args[j]? = some v → Value.okWide Tryz.prog W .any base t v := hval0
 have hW' := hW
 obtain ⟨p, q, hA0, hV, rfl, hfz, hnd⟩ := hW
 have hA : DataW.TrodAll enc Tryz.prog W 0 (fun _ => true) true Tryz.f5.params.toList args.toList ds p := hA0
 rw [Tryz.params5] at hA hval
 obtain ⟨v0, vs0, d0, ds0, p0, q0, hargs, rfl, rfl, h0, r0⟩ := trodAll_cons hA
 obtain ⟨rfl, rfl, rfl⟩ := trodAll_nil r0
 obtain rfl : args = #[v0] := by cases args; simp_all
 obtain ⟨rfl, rfl⟩ := trodVars_none hV
 have k0 := h0
 have lt0 : ∀ x ∈ p0, x.block < W.heap.size := by obtain ⟨m, hm⟩ := k0; exact DataW.trod_lt m _ _ _ hm
 obtain ⟨l0, hv0⟩ := bytes_of (hval 0 31 v0 rfl rfl) h0
 clear hA0 hval0
 have hvs : V.RL Tryz.prog (Old W) noMu W [sls encByte l0] (#[v0] : Array Value).toList := by
  simp only [V.RL]
  exact ⟨_, _, rfl, hv0, rfl⟩
 refine ((lawP_ok l0).said (of_laid hL) hvs).mono fun e W' ⟨he, hg⟩ => ?_
 have bel := grown_below hg
 subst he
 exact ⟨_, rfl, _, _, _, [], _, [], hW', trodAll_mk1 (shut_bool Tryz.underlying4 _), (trodAll_cons_mk (Below.trod laidOut (by kernel_rfl) (of_decide_eq_true (by kernel_rfl)) k0 bel lt0) trodAll_mk0), rfl, bel.frame _, fun h => by cases h⟩
theorem over : Rows.fnParseRow.holds Tryz.pinned (OpenSpec.ofChange Rows.fnParseSpec) :=
 OpenClaim.holds_of_wide 5 Tryz.f5 rfl rfl rfl rfl rfl rfl rfl ⟨rfl, rfl, rfl, rfl, rfl⟩ rfl rfl rfl rfl rfl (by kernel_rfl) Tryz.func5 (by kernel_rfl)
  (of_decide_eq_true (by kernel_rfl)) (by unfold Func.isWrapper; first | (rw [if_pos (by decide +kernel)]; kernel_rfl) | (rw [if_neg (by decide +kernel)]; exact ⟨rfl, rfl⟩))
  (fun os started H enc _ => lifted os started H enc)
theorem proved : Rows.FnParseCardSaid :=
 Claim7.holds_tied_plain_at .later [] [.data, .data, .data, .sentinel, .sentinel] true Rows.fnParseCard.stood.harness true
  over (fun _ h => by cases h) (by kernel_rfl) (fun _ h => by cases h) fnParse_row_tie rfl ⟨rfl, rfl⟩ (by kernel_rfl) rfl
  (fun f fn hf hfn => by
   obtain rfl : f = 5 := Option.some.inj ((show Tryz.prog.funcNamed "loop.example/g00524/laws.FnParse" = some 5 by kernel_rfl).symm.trans hf) |>.symm
   obtain rfl : fn = Tryz.f5 := (Option.some.inj (Tryz.func5.symm.trans hfn)).symm
   exact ⟨by kernel_rfl, fun j t ht => by
    rw [Tryz.params5] at ht
    have hm : t ∈ [31] := by simpa using Array.mem_of_getElem? ht
    have hall : ([31].all fun u => !Tryz.prog.wantsStandIn u) = true := by kernel_rfl
    exact (show Tryz.prog.wantsStandIn t = false by simpa using List.all_eq_true.1 hall t hm)⟩)
  (by kernel_rfl)
#print axioms proved
end Go.Proofs.YtfncaghjfgnnhaaGreatDoor.fnParse

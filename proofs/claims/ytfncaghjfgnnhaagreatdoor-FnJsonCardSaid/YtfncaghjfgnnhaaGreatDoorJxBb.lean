/-
  The law FnJson.
  From a contract to the given statement: arguments that are slices of bytes.
-/
import Derived.Test.YtfncaghjfgnnhaaGreatDoorJxBa
import Derived.ProofKit
import Derived.ChangeSlices
namespace Go.Proofs.YtfncaghjfgnnhaaGreatDoor
open Go.RowKit
set_option maxRecDepth 100000

abbrev fLawJ : Nat := 4
def jOne : V := .agg [.int .i64 4, .int .i64 0, .str [], .dsl 0 true [], .sl 0 0 1 true]
noncomputable def resLJ : ResT := fun f vs hp => match vs, hp with
  | [.dsl _ _ cs], [] => bif Nat.beq f fDrawn then some ⟨drawnJ (decL encByte cs), fun y => ⟨.agg (vwJ y), [], []⟩⟩ else none
  | [.str t], [] => bif Nat.beq f fParseJson then some ⟨iPJ t, fun y => ⟨.tup [.agg (vwJ y.1), .int .i64 y.2], [], []⟩⟩ else none
  | [.dsl _ _ cs, .int _ i, .int _ n], [] => bif Nat.beq f fAt then some ⟨atF (decL encByte cs) i.toNat n, fun y => ⟨.int .i64 y, [], []⟩⟩ else none
  | [.agg [.int _ k, .int _ n, .str t, .dsl _ _ ks, .sl 0 0 1 _]], [some ([.int _ a, .int _ b, .str c, .dsl _ _ e, .dsl _ _ g], _)] =>
    bif Nat.beq f fIPrintJson then some ⟨pj (one (jOf a b c e g)), fun y => ⟨.tup [.str y, .int .i64 0], hp, []⟩⟩
    else bif Nat.beq f fSPrintJ then some ⟨pj (one (jOf a b c e g)), fun y => ⟨.tup [.str y, .int .i64 0], hp, []⟩⟩
    else bif Nat.beq f fIJsonOK then some ⟨(), fun _ => ⟨.bool true, hp, []⟩⟩
    else bif Nat.beq f fINodesJ then some ⟨jn (one (jOf a b c e g)), fun (y : Nat) => ⟨.tup [.int .i64 (y : Nat), .int .i64 0], hp, []⟩⟩
    else bif Nat.beq f fSNodes then some ⟨jn (one (jOf a b c e g)), fun (y : Nat) => ⟨.tup [.int .i64 (y : Nat), .int .i64 0], hp, []⟩⟩
    else bif Nat.beq f fIDepJ then some ⟨jdep (one (jOf a b c e g)), fun (y : Nat) => ⟨.tup [.int .i64 (y : Nat), .int .i64 0], hp, []⟩⟩
    else bif Nat.beq f fSDepJ then some ⟨jdep (one (jOf a b c e g)), fun (y : Nat) => ⟨.tup [.int .i64 (y : Nat), .int .i64 0], hp, []⟩⟩
    else none
  | [.agg [_, _, _, _, .dsl _ _ _], .agg [_, _, _, _, .sl 0 0 1 _]], [some _] => bif Nat.beq f fSameJ then some ⟨(), fun _ => ⟨.bool true, hp, []⟩⟩ else none
  | _, _ => none
noncomputable def ELJ : Env := { P := Tryz.prog, vw := vwA, res := resLJ }
--FOLD vwJ
set_option maxRecDepth 100000 in
theorem lawJT (a b : List UInt8) : fnT ELJ 0 fLawJ [sls encByte a, sls encByte b] [] =
 bif decide ((↑(List.length a) : Int) > (1048576 : Int)) then T.done (Ret.mk (V.bool true) [] [])
 else
 bif decide ((↑(List.length b) : Int) > (1048576 : Int)) then T.done (Ret.mk (V.bool true) [] [])
 else
 T.bind (drawnJ (decL encByte (encs encByte a))) fun y0 =>
 T.need [FnOK (Env.P ELJ) 11 [V.dsl (List.length a) false (encs encByte a)] [] (Ret.mk (V.agg (vwJ y0)) [] [])]
 (T.bind (pj (one (jOf (J.kind y0) (J.n y0) (J.t y0) (encs encStr (J.keys y0)) (encs encJ (J.items y0))))) fun y1 =>
 T.need
 [FnOK (Env.P ELJ) 12 [V.agg [V.int IntKind.i64 (4 : Int), V.int IntKind.i64 (0 : Int), V.str [], V.dsl 0 true [], V.sl 0 0 1 true]] [some (vwJ y0, 25)]
 (Ret.mk (V.tup [V.str y1, V.int IntKind.i64 (0 : Int)]) [some (vwJ y0, 25)] [])]
 (T.bind (pj (one (jOf (J.kind y0) (J.n y0) (J.t y0) (encs encStr (J.keys y0)) (encs encJ (J.items y0))))) fun y2 =>
 T.need
 [FnOK (Env.P ELJ) 13 [V.agg [V.int IntKind.i64 (4 : Int), V.int IntKind.i64 (0 : Int), V.str [], V.dsl 0 true [], V.sl 0 0 1 true]] [some (vwJ y0, 25)]
 (Ret.mk (V.tup [V.str y2, V.int IntKind.i64 (0 : Int)]) [some (vwJ y0, 25)] [])]
 (T.bind (iPJ y1) fun y3 =>
 T.need [FnOK (Env.P ELJ) 7 [V.str y1] [] (Ret.mk (V.tup [V.agg (vwJ (Prod.fst y3)), V.int IntKind.i64 (Prod.snd y3)]) [] [])]
 (bif !y1 == y2 then T.done (Ret.mk (V.bool false) [] [])
 else
 bif Prod.snd y3 != (0 : Int) then T.done (Ret.mk (V.bool false) [] [])
 else
 T.bind PUnit.unit fun y4 =>
 T.need
 [FnOK (Env.P ELJ) 14
 [V.agg (vwJ (Prod.fst y3)), V.agg [V.int IntKind.i64 (4 : Int), V.int IntKind.i64 (0 : Int), V.str [], V.dsl 0 true [], V.sl 0 0 1 true]]
 [some (vwJ y0, 25)] (Ret.mk (V.bool true) [some (vwJ y0, 25)] [])]
 (T.bind PUnit.unit fun y5 =>
 T.need
 [FnOK (Env.P ELJ) 15 [V.agg [V.int IntKind.i64 (4 : Int), V.int IntKind.i64 (0 : Int), V.str [], V.dsl 0 true [], V.sl 0 0 1 true]]
 [some (vwJ y0, 25)] (Ret.mk (V.bool true) [some (vwJ y0, 25)] [])]
 (bif decide ((↑(List.length y1) : Int) < (3 : Int)) then T.done (Ret.mk (V.bool false) [] [])
 else
 T.bind (atF (decL encByte (encs encByte b)) 0 (↑(List.length y1) : Int)) fun y6 =>
 T.need
 [FnOK (Env.P ELJ) 16 [V.dsl (List.length b) false (encs encByte b), V.int IntKind.i64 (0 : Int), V.int IntKind.i64 (↑(List.length y1) : Int)] []
 (Ret.mk (V.int IntKind.i64 y6) [] [])]
 (T.need [(0 : Int) ≤ y6 ∧ y6 ≤ (↑(List.length y1) : Int)]
 (T.bind (iPJ (List.drop 0 (List.take (Int.toNat y6) y1))) fun y7 =>
 T.need
 [FnOK (Env.P ELJ) 7 [V.str (List.drop 0 (List.take (Int.toNat y6) y1))] [] (Ret.mk (V.tup [V.agg (vwJ (Prod.fst y7)), V.int IntKind.i64 (Prod.snd y7)]) [] [])]
 (T.bind (jn (one (jOf (J.kind y0) (J.n y0) (J.t y0) (encs encStr (J.keys y0)) (encs encJ (J.items y0))))) fun y8 =>
 T.need
 [FnOK (Env.P ELJ) 17 [V.agg [V.int IntKind.i64 (4 : Int), V.int IntKind.i64 (0 : Int), V.str [], V.dsl 0 true [], V.sl 0 0 1 true]]
 [some (vwJ y0, 25)] (Ret.mk (V.tup [V.int IntKind.i64 (↑y8 : Int), V.int IntKind.i64 (0 : Int)]) [some (vwJ y0, 25)] [])]
 (T.bind (jn (one (jOf (J.kind y0) (J.n y0) (J.t y0) (encs encStr (J.keys y0)) (encs encJ (J.items y0))))) fun y9 =>
 T.need
 [FnOK (Env.P ELJ) 18
 [V.agg [V.int IntKind.i64 (4 : Int), V.int IntKind.i64 (0 : Int), V.str [], V.dsl 0 true [], V.sl 0 0 1 true]]
 [some (vwJ y0, 25)] (Ret.mk (V.tup [V.int IntKind.i64 (↑y9 : Int), V.int IntKind.i64 (0 : Int)]) [some (vwJ y0, 25)] [])]
 (T.bind (jdep (one (jOf (J.kind y0) (J.n y0) (J.t y0) (encs encStr (J.keys y0)) (encs encJ (J.items y0))))) fun y10 =>
 T.need
 [FnOK (Env.P ELJ) 19
 [V.agg [V.int IntKind.i64 (4 : Int), V.int IntKind.i64 (0 : Int), V.str [], V.dsl 0 true [], V.sl 0 0 1 true]]
 [some (vwJ y0, 25)] (Ret.mk (V.tup [V.int IntKind.i64 (↑y10 : Int), V.int IntKind.i64 (0 : Int)]) [some (vwJ y0, 25)] [])]
 (T.bind (jdep (one (jOf (J.kind y0) (J.n y0) (J.t y0) (encs encStr (J.keys y0)) (encs encJ (J.items y0))))) fun y11 =>
 T.need
 [FnOK (Env.P ELJ) 20
 [V.agg [V.int IntKind.i64 (4 : Int), V.int IntKind.i64 (0 : Int), V.str [], V.dsl 0 true [], V.sl 0 0 1 true]]
 [some (vwJ y0, 25)] (Ret.mk (V.tup [V.int IntKind.i64 (↑y11 : Int), V.int IntKind.i64 (0 : Int)]) [some (vwJ y0, 25)] [])]
 (bif Prod.snd y7 == (3 : Int) then
 bif (↑y8 : Int) == (↑y9 : Int) then
 bif (↑y10 : Int) == (↑y11 : Int) then T.done (Ret.mk (V.bool (decide ((↑y10 : Int) > (0 : Int)))) [] []) else T.done (Ret.mk (V.bool false) [] [])
 else T.done (Ret.mk (V.bool false) [] [])
 else T.done (Ret.mk (V.bool false) [] [])))))))))))))) := by kernel_rfl
theorem pj_one (j : J) : pj (one j) = 91 :: (pj j ++ [93]) := by
  have := pj_lst [j]
  rw [pjs_fst, pjs, prt_f, List.append_nil] at this
  exact this
theorem one_okj {j : J} (h : Dr 3 j) (hp : Pr (bF 3) j) : OKJ (one j) := by
  refine ⟨one_right h, ?_⟩
  have b3 : bF 3 = 2250 := by decide
  exact (pr_many (b := bF 3) (by omega) 4 (.inl rfl) [] [j] (m := 1) (by omega) (by simp) (fun x hx => by rw [List.mem_singleton] at hx; rw [hx]; exact hp) (by simp) (by omega)).ok
theorem skp_nil : skp [] = [] := rfl
theorem one_back {j : J} (h : okJ (one j) = true) (hl : (pj (one j)).length ≤ 65536) : iPJ (pj (one j)) = (one j, 0) := by
  have e := rt 12 (one j) 0 400 [] (by omega) rfl (by omega) h noNm_nil
  rw [List.append_nil] at e
  have e1 : iPar (pj (one j)) = (one j, true) := by
    unfold iPar iVal0 iEnd
    rw [e]; rfl
  unfold iPJ
  rw [decide_eq_true hl, e1]; rfl
theorem one_cut {j : J} (h : okJ (one j) = true) (hl : (pj (one j)).length ≤ 65536) {k : Nat} (hk : k < (pj (one j)).length) : (iPJ ((pj (one j)).take k)).2 = 3 := by
  have hu : (pj (one j)).drop k ≠ [] := fun e => by have := congrArg List.length e; simp at this; omega
  have e := pre 12 (one j) 0 400 _ _ (by omega) rfl (by omega) h hu (List.take_append_drop k _)
  have hb : (iVal0 ((pj (one j)).take k)).2.bad = true := by
    rcases e with e | ⟨_, e⟩
    · exact e
    · cases e
  have e1 : iPar ((pj (one j)).take k) = (J.zero, false) := by
    unfold iPar iEnd
    rw [hb]; rfl
  unfold iPJ
  rw [decide_eq_true (by rw [List.length_take]; omega), e1]; rfl
theorem lend_one (j : J) : ([.agg [.int .i64 4, .int .i64 0, .str [], .dsl 0 true [], .sl 0 0 1 true]] : List V).map (lnd Tryz.prog [some (vwJ j, tJ)] 5) = [.agg (vwJ (one j))] := by
  have hs : szOf Tryz.prog tJ = some 5 := by kernel_rfl
  have hh : hasSeal (vwJ j) = false := rfl
  have e1 : vwJ (one j) = [.int .i64 4, .int .i64 0, .str [], .dsl 0 false [], .dsl 1 false (vwJ j)] := by
    rw [show vwJ (one j) = [.int .i64 4, .int .i64 0, .str [], sls encStr ([] : List (List UInt8)), sls encJ [j]] from rfl]
    simp [sls, encs, encJ_vw]
  rw [e1]
  have e2 : lnd Tryz.prog [some (vwJ j, tJ)] 4 (.sl 0 0 1 true) = .dsl 1 false (vwJ j) := by
    unfold lnd
    simp only [List.getElem?_cons_zero, hh, hs]
    simp [vwJ, lnd, sls]
  show [V.agg [_, _, _, _, lnd Tryz.prog [some (vwJ j, tJ)] 4 (.sl 0 0 1 true)]] = _
  rw [e2]; rfl
theorem lawJ_ok (a b : List UInt8) : FnOK Tryz.prog fLawJ [sls encByte a, sls encByte b] [] ⟨.bool true, [], []⟩ := by
  refine fnOK_TL (E := ELJ) follows named (lawJT a b) (by simp) ?_
  simp only [WP_cond, T.WP, All, decide_eq_true_eq, decide_eq_false_iff_not, and_true, beq_iff_eq, beq_eq_false_iff_ne, ne_eq, layByte.decL, bne_iff_ne, bne_eq_false_iff_eq, jOf_vw]
  refine ⟨fun _ => ⟨rfl, rfl, by simp⟩, fun ha => ⟨fun _ => ⟨rfl, rfl, by simp⟩, fun hb => ?_⟩⟩
  have dA := drawn_dr a (by omega)
  have b3 : bF 3 = 2250 := by decide
  have drA := drawn_ok a (by omega)
  have hpr : Pr (bF 3) (drawnJ a) := by
    have hs : (0 + qF 3) ≤ 1000000 := by decide
    exact json_pr 3 (by omega) _ 0 (Src.OK.less (srcNew_ok a (by omega)) hs)
  rintro y rfl
  refine ⟨drA, ?_⟩
  generalize drawnJ a = j at *
  have hO := one_okj dA.1 hpr
  obtain ⟨hr, hn⟩ := hO.rj
  have e1 := pj_one j
  have l1 : (pj (one j)).length = (pj j).length + 2 := by rw [e1]; simp
  have l2 : 1 ≤ (pj j).length := by
    obtain ⟨c, s, e, _⟩ := (part_head (hr.item j (by simp [one, J.items])).part).2.cons
    rw [e]; simp
  have hl : (pj (one j)).length ≤ 65536 := by omega
  have eb := one_back hO.ok hl
  have ld := lend_one j
  rintro y1 rfl
  refine ⟨FnOK.lend 5 ld (printJson_ok _ hO.ok) rfl, ?_⟩
  rintro y2 rfl
  refine ⟨FnOK.lend 5 ld hO.sprint rfl, ?_⟩
  rintro y3 rfl
  refine ⟨parseJson_ok _, fun h => by simp at h, fun _ => ⟨fun h => by rw [eb] at h; exact absurd rfl h, fun _ => ?_⟩⟩
  rintro y4 -
  have hsame : FnOK Tryz.prog fSameJ [.agg (vwJ (iPJ (pj (one j))).1), .agg [.int .i64 4, .int .i64 0, .str [], .dsl 0 true [], .sl 0 0 1 true]] [some (vwJ j, tJ)] ⟨.bool true, [some (vwJ j, tJ)], []⟩ := by
    rw [eb]
    refine FnOK.lend 5 (vs' := [.agg (vwJ (one j)), .agg (vwJ (one j))]) ?_ (sj_ok 400 _ hn (by omega) hr) rfl
    rw [List.map_cons, ld]
    rfl
  refine ⟨hsame, ?_⟩
  rintro y5 -
  refine ⟨FnOK.lend 5 ld hO.iok rfl, fun h => by omega, fun _ => ?_⟩
  rintro y6 rfl
  have hat := at_ok b 0 (by omega) ((pj (one j)).length : Int) (by omega)
  obtain ⟨b1, b2⟩ := atF_bd b 0 (n := ((pj (one j)).length : Int)) (by omega)
  refine ⟨hat, ⟨by omega, by omega⟩, ?_⟩
  generalize atF b 0 ((pj (one j)).length : Int) = q at *
  rintro y7 rfl
  have ec := one_cut hO.ok hl (k := q.toNat) (by omega)
  rw [List.drop_zero]
  refine ⟨parseJson_ok _, ?_⟩
  rintro y8 rfl
  refine ⟨FnOK.lend 5 ld hO.inodes rfl, ?_⟩
  rintro y9 rfl
  refine ⟨FnOK.lend 5 ld hO.snodes rfl, ?_⟩
  rintro y10 rfl
  refine ⟨FnOK.lend 5 ld hO.idep rfl, ?_⟩
  rintro y11 rfl
  refine ⟨FnOK.lend 5 ld hO.sdep rfl, ?_⟩
  have hd : jdep (one j) = jdeps [j] + 1 := jdep_eq (one j)
  refine ⟨fun _ => ⟨fun _ => ⟨fun _ => ?_, fun h => absurd rfl h⟩, fun h => absurd rfl h⟩, fun h => absurd ec h⟩
  rw [decide_eq_true (by omega)]
  exact ⟨rfl, rfl, by simp⟩
end Go.Proofs.YtfncaghjfgnnhaaGreatDoor

namespace Go.Proofs.YtfncaghjfgnnhaaGreatDoor
open Go.RowKit Go.WideShapes Go.ChangeShapes

def Old (w : World) : Nat → Prop := fun k => k < w.heap.size

theorem evo_grown {I : Nat → Prop} {w w' : World} {X : Nat → Prop} (h : Evo I w w' X) (hX : ∀ k, ¬ X k) : w.grownBy w' none := ⟨h.os, h.tape, h.output, h.size, fun k hk _ => h.block k hk (hX k)⟩

def TabsLaid (P : Program) (w : World) : Prop := (∀ x ∈ tabs, ∀ g, P.globalNamed x.1 = some g → Lib.TabIs P w x.1 x.2.1 x.2.2) ∧ ∀ x ∈ errVars, ∀ g, P.globalNamed x = some g → ∃ ev, w.cell? ⟨g, 0, none⟩ = some ev ∧ (ev = .nilIface ∨ ∃ te pe, ev = .iface te pe)
theorem tab_old {P : Program} {w : World} {name : String} {k : IntKind} {zs : List Int} {g : Nat} (h : Lib.TabIs P w name k zs) (hg : P.globalNamed name = some g) : g < w.heap.size := by
  unfold Lib.TabIs World.var? at h
  rw [hg] at h
  simp only [Option.bind_some] at h
  rcases Nat.lt_or_ge g w.heap.size with h1 | h1
  · exact h1
  · rw [Array.getElem?_eq_none h1] at h; simp at h
theorem cell_old {w : World} {g : Nat} {ev : Value} (h : w.cell? ⟨g, 0, none⟩ = some ev) : g < w.heap.size := by
  unfold World.cell? at h
  rcases Nat.lt_or_ge g w.heap.size with h1 | h1
  · exact h1
  · rw [Array.getElem?_eq_none h1] at h; simp at h
theorem FnOK.said {P : Program} {f : FuncId} {vs : List V} {vals : Array Value} {w : World} (h : FnOK P f vs [] ⟨.bool true, [], []⟩) (hT : TabsLaid P w) (hv : V.RL P (Old w) noMu w vs vals.toList) :
    Calls P f vals w fun e w' => e = .returned (.bool true) ∧ w.grownBy w' none := by
  refine (h.2 (Old w) w noMu vals hv ⟨⟨fun k hk => hk, fun x hx g hg => ⟨tab_old (hT.1 x hx g hg) hg, hT.1 x hx g hg⟩, fun x hx g hg => by
    obtain ⟨ev, h1, h2⟩ := hT.2 x hx g hg
    exact ⟨cell_old h1, ev, h1, h2⟩⟩, by simp, by simp, fun _ _ _ => rfl⟩ (fun b g hb => by cases hb)).mono ?_
  rintro e w' ⟨val, μ', I', rfl, hR, hG⟩
  simp only [V.R] at hR
  subst hR
  exact ⟨rfl, evo_grown hG.evo fun k hk => by obtain ⟨b, hb, _⟩ := hk; simp at hb⟩

theorem row_at {w : World} {a : Addr} {f : Nat → Value} {n : Nat} (hs : a.spot = none) (hn : 0 < n) (hc : ∀ i, i < n → w.cell? (a.add i) = some (f i)) :
    ∃ cells e fr, w.heap[a.block]? = some (.cells cells e fr) ∧ ∀ i, i < n → cells[a.off + i]? = some (f i) := by
  have h0 := hc 0 hn
  have hb : ∀ i, (a.add i) = ⟨a.block, a.off + i, none⟩ := by
    intro i
    unfold Addr.add
    split
    · rename_i h; subst h; obtain ⟨b, o, s⟩ := a; simp only at hs; subst hs; rfl
    · rfl
  rw [hb 0] at h0
  unfold World.cell? at h0
  split at h0
  · rename_i cells e fr hh
    refine ⟨cells, e, fr, hh, fun i hi => ?_⟩
    have h1 := hc i hi
    rw [hb i] at h1
    unfold World.cell? at h1
    rw [hh] at h1
    simpa using h1
  · cases h0

theorem RL_byts {P : Program} {I : Nat → Prop} {μ : Mu} {w : World} : ∀ l : List UInt8, V.RL P I μ w (encs encByte l) (l.map fun b => Value.int .u8 (b.toNat : Nat))
  | [] => by simp [encs, V.RL]
  | b :: l => by
    have : encs encByte (b :: l) = .int .u8 (b.toNat : Nat) :: encs encByte l := rfl
    rw [this, List.map_cons]
    simp only [V.RL, V.R]
    exact ⟨_, _, rfl, rfl, RL_byts l⟩

set_option maxRecDepth 100000 in
theorem bytes_of {H : Type} {enc : TypeId × Value → H} {w : World} {base base0 : Nat} {spare : Nat → Bool} {held : Bool} {v : Value} {d : DataW H} {p : List MemPlace}
    (hok : Value.okWide Tryz.prog w .any base0 31 v) (h : DataW.Trod enc Tryz.prog w base spare held 31 v d p) :
    ∃ l : List UInt8, V.R Tryz.prog (Old w) noMu w (sls encByte l) v := by
  obtain ⟨a0, l0, c0, rfl⟩ := okWide_slice Tryz.underlying31 hok
  have c9 : Tryz.prog.cellsOf 5 = 1 := by kernel_rfl
  obtain ⟨fuel, hf⟩ := h
  rcases open_ints Tryz.underlying31 Tryz.underlying5 c9 hf with ⟨hcs, _⟩ | ⟨ad, len, cap, zs, hcs, _, hl, hm, hlen, _, hcell, hws⟩
  · simp [Value.cells] at hcs
    obtain ⟨rfl, rfl, rfl⟩ := hcs
    refine ⟨[], ?_⟩
    simp only [sls, V.R]
    exact ⟨none, 0, rfl, Nat.le_refl _, fun h => (nomatch h), .inl ⟨rfl, rfl⟩, .inl rfl⟩
  · simp [Value.cells] at hcs
    obtain ⟨rfl, rfl, rfl⟩ := hcs
    have hsp : ad.spot = none := by
      unfold Value.okWide at hok
      rw [Tryz.underlying31] at hok
      simp only [Cell.okWide, Tryz.underlying31, Cell.ok] at hok
      exact hok.2.2.2.1
    have hle : l0 ≤ zs.length := by rw [hlen]; split <;> omega
    let l : List UInt8 := (zs.take l0).map fun z => UInt8.ofNat z.toNat
    have hll : l.length = l0 := by simp only [l, List.length_map, List.length_take]; omega
    refine ⟨l, ?_⟩
    obtain ⟨g, off, s⟩ := ad
    simp only at hsp; subst hsp
    simp only [sls, V.R]
    refine ⟨_, c0, by rw [hll], by omega, fun h => (nomatch h), .inr ⟨g, off, rfl⟩, ?_⟩
    by_cases h0 : l0 = 0
    · left
      have : l = [] := List.eq_nil_of_length_eq_zero (by omega)
      rw [this]; rfl
    · obtain ⟨cells, e, fr, hh, hat⟩ := row_at (a := ⟨g, off, none⟩) (n := l0) rfl (by omega) (fun i hi => hcell i (by omega))
      refine .inr <| .inr ⟨g, off, rfl, (Array.getElem?_eq_some_iff.1 hh).1, cells, e, fr, hh, ?_⟩
      have hval : ((cells.toList.drop off).take (encs encByte l).length) = l.map fun b => Value.int .u8 (b.toNat : Nat) := by
        rw [show (encs encByte l).length = l0 by rw [layByte.length, Nat.mul_one, hll]]
        apply List.ext_getElem?
        intro i
        rw [List.getElem?_take]
        split
        · rename_i hi
          rw [List.getElem?_drop, Array.getElem?_toList, hat i hi]
          have h1 : zs.getD i 0 ∈ zs := by
            rw [List.getD_eq_getElem?_getD, List.getElem?_eq_getElem (by omega)]; exact List.getElem_mem _
          have h2 := hws _ h1
          have h3 : 0 ≤ zs.getD i 0 ∧ zs.getD i 0 ≤ 255 := by
            have : IntKind.u8.min = 0 ∧ IntKind.u8.max = 255 := by decide
            rw [Lit.wf, this.1, this.2, Bool.and_eq_true, decide_eq_true_eq, decide_eq_true_eq] at h2
            exact h2
          have h4 : (l.map fun b => Value.int .u8 (b.toNat : Nat))[i]? = some (.int .u8 (((UInt8.ofNat (zs.getD i 0).toNat).toNat : Nat) : Int)) := by
            simp only [l, List.getElem?_map]
            rw [List.getElem?_take, if_pos hi, List.getD_eq_getElem?_getD, List.getElem?_eq_getElem (by omega)]
            rfl
          rw [h4, UInt8.toNat_ofNat']
          congr 2
          omega
        · rename_i hi
          rw [List.getElem?_eq_none (by simp only [List.length_map]; omega)]
      rw [hval]
      exact RL_byts l

end Go.Proofs.YtfncaghjfgnnhaaGreatDoor

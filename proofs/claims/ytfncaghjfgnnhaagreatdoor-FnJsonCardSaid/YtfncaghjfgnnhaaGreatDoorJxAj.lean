/-
  The library's IndexByte, Atoi and Sort as contracts of calls.
  The program's reader of values: objects.
  The program's reader of values: the parts of an object.
  The program's reader of values: objects.
  The program's reader of values: the whole.
  The program's ParseJson.
  Numbers are read back from their digits: plain.
  Texts are read back from their quotes: plain.
  A value is read back from its text: plain.
  A value is read back from its text: objects, and the whole.
  A value is read back from its text: the whole; and a text that is cut is no value's.
-/
import Derived.Test.YtfncaghjfgnnhaaGreatDoorJxAi
import Derived.Sort.OwnSorted
import Derived.Shelf.Slices.In.SortNone
import Derived.Lib.AtoiTie
import Derived.Sort.Walk0
namespace Go.Proofs.YtfncaghjfgnnhaaGreatDoor
open Go.RowKit
set_option maxRecDepth 100000

theorem below_grow {w w' : World} (h : Below w.heap.size w w') : w.grownBy w' none := ⟨h.os, h.tape, h.output, h.size, fun k hk _ => h.block k hk⟩
theorem idxB_ok : IdxB := by
  intro p c
  refine FnOK.ofCalls fun I w vals hv hI => ?_
  simp only [V.RL, V.R] at hv
  obtain ⟨u, us, h1, rfl, u2, us2, rfl, rfl, rfl⟩ := hv
  obtain rfl : vals = #[.string ⟨p.toArray⟩, .int .u8 (c.toNat : Nat)] := by cases vals; simp_all
  refine (Any.strings_IndexByte Tryz.lays137 ⟨p.toArray⟩ (c.toNat : Nat) w).mono ?_
  rintro e w' ⟨he, rfl⟩
  exact ⟨_, he, by simp only [V.R, idxB], ⟨rfl, rfl, rfl, Nat.le_refl _, fun _ _ _ => rfl⟩⟩

theorem atoi_ok : AtoiOK := by
  intro t ht
  have eS : Tryz.prog.globalNamed "strconv.ErrSyntax" = some 2 := by kernel_rfl
  have eR : Tryz.prog.globalNamed "strconv.ErrRange" = some 3 := by kernel_rfl
  unfold atoiRet atoiV
  cases ha : Lib.atoiAll t with
  | ok v =>
    refine FnOK.ofCalls fun I w vals hv hI => ?_
    simp only [V.RL, V.R] at hv
    obtain ⟨u, us, h1, rfl, rfl⟩ := hv
    obtain rfl : vals = #[.string ⟨t.toArray⟩] := by cases vals; simp_all
    refine (Any.strconv_Atoi_ok Tryz.lays172 ⟨t.toArray⟩ (by show t.toArray.size ≤ _; simp; omega) v ha w).mono ?_
    rintro e w' ⟨he, hw⟩
    refine ⟨_, he, ?_, ?_⟩
    · simp only [V.R, V.RL]
      exact ⟨_, rfl, _, _, rfl, rfl, _, _, rfl, rfl, rfl⟩
    · rcases hw with rfl | ⟨x, rfl⟩
      · exact ⟨rfl, rfl, rfl, Nat.le_refl _, fun _ _ _ => rfl⟩
      · exact below_grow (Lib.bytesWorld_below _ _ _)
  | range =>
    refine FnOK.ofCalls fun I w vals hv hI => ?_
    simp only [V.RL, V.R] at hv
    obtain ⟨u, us, h1, rfl, rfl⟩ := hv
    obtain rfl : vals = #[.string ⟨t.toArray⟩] := by cases vals; simp_all
    obtain ⟨_, ev, hev1, hev2⟩ := hI.errs "strconv.ErrRange" (by simp [errVars]) _ eR
    refine (Any.strconv_Atoi_range Tryz.lays172 ⟨t.toArray⟩ (by show t.toArray.size ≤ _; simp; omega) ha ev w hev1 hev2).mono ?_
    rintro e w' ⟨N, he, h1, h2, h3⟩
    refine ⟨_, he, ?_, below_grow h3⟩
    simp only [V.R, V.RL]
    exact ⟨_, rfl, _, _, rfl, rfl, _, _, rfl, ⟨#[.pointer (some ⟨N, 0, none⟩)], rfl, _, _, rfl, ⟨N, 0, rfl, .inl trivial⟩, rfl⟩, rfl⟩
  | _ =>
    refine FnOK.ofCalls fun I w vals hv hI => ?_
    simp only [V.RL, V.R] at hv
    obtain ⟨u, us, h1, rfl, rfl⟩ := hv
    obtain rfl : vals = #[.string ⟨t.toArray⟩] := by cases vals; simp_all
    obtain ⟨_, ev, hev1, hev2⟩ := hI.errs "strconv.ErrSyntax" (by simp [errVars]) _ eS
    refine (Any.strconv_Atoi_syntax Tryz.lays172 ⟨t.toArray⟩ (by show t.toArray.size ≤ _; simp; omega) ha ev w hev1 hev2).mono ?_
    rintro e w' ⟨N, he, h1, h2, h3⟩
    refine ⟨_, he, ?_, below_grow h3⟩
    simp only [V.R, V.RL]
    exact ⟨_, rfl, _, _, rfl, rfl, _, _, rfl, ⟨#[.pointer (some ⟨N, 0, none⟩)], rfl, _, _, rfl, ⟨N, 0, rfl, .inl trivial⟩, rfl⟩, rfl⟩
theorem Good.grownStep {P : Program} {I : Nat → Prop} {μ : Mu} {w w' : World} {hp : Hp} (pre : Pre P I μ w hp (List.range hp.length) hp.length) (hg : w.grownBy w' none) : Good P I I μ μ w w' hp hp (List.range hp.length) [] := by
  have G := Good.same hp pre
  have hE : ∀ X, Evo I w w' X := fun X => .ofGrown hg pre.ilt
  have hb : ∀ k, k < w.heap.size → w'.heap[k]? = w.heap[k]? := fun k hk => hg.block k hk (by simp)
  refine ⟨.refl _, fun k hk => .inl hk, hE _, .refl _, fun b g h => .inl h, fun _ _ _ => rfl, fun b hb' blk h => ?_, fun b hb' blk h => ?_, G.inj⟩
  · have hH := G.holds b hb' blk h
    exact hH.keep (hE (fun _ => False)) (.refl _) (.refl _) (fun h => h) rfl (fun _ _ h => h) fun g hg => (G.holds b hb' blk h).nimm hg
  · rcases hb' with hb' | hb'
    · exact absurd (at_lt h) (by omega)
    · cases hb'
theorem RL_strs {P : Program} {I : Nat → Prop} {μ : Mu} {w : World} : ∀ (L : List (List UInt8)) (vs : List Value), V.RL P I μ w (encs encStr L) vs ↔ vs = L.map Go.Proofs.encStr
  | [], vs => by simp [encs, V.RL]
  | s :: L, vs => by
    rw [encs_cons]
    simp only [encStr, List.cons_append, List.nil_append, V.RL, V.R, List.map_cons]
    constructor
    · rintro ⟨u, us, rfl, rfl, h⟩
      rw [RL_strs L us] at h
      rw [h]
    · rintro rfl
      exact ⟨_, _, rfl, rfl, (RL_strs L _).2 rfl⟩
abbrev fSort : Nat := 99
theorem sort_ok (L : List (List UInt8)) (f : Bool) (hL : L.length ≤ 1048576) : FnOK Tryz.prog fSort [.sl 0 0 L.length f] [some ([.sld (encs encStr L)], tStr)] ⟨.tup [], [some ([.sld (encs encStr (srt L))], tStr)], [0]⟩ := by
  refine ⟨⟨Nat.le_refl _, fun b hb => by simp at hb ⊢; omega, fun b hb => by simp at hb ⊢; omega, fun b hb h => ?_⟩, fun I w μ vals hv pre hdom => ?_⟩
  · obtain rfl : b = 0 := by simp at hb; omega
    exact ⟨_, rfl⟩
  simp only [V.RL] at hv
  obtain ⟨u, us, h1, hu, rfl⟩ := hv
  obtain rfl : vals = #[u] := by cases vals; simp_all
  have pre1 := pre.top (Nat.le_refl _)
  simp only [V.R] at hu
  rcases hu with ⟨g, cap, e, N, i, hg, rfl, hc1, hc2, hfull, hsh, hi, hN⟩ | ⟨_, h0, a, rfl, _⟩
  · have hb0 : ([some ([.sld (encs encStr L)], tStr)] : Hp)[0]? = some (some ([.sld (encs encStr L)], tStr)) := rfl
    obtain ⟨cur, fr, hnI, hw, hfr, ⟨hsz, hcr⟩, hnd, hF⟩ := (pre.holds 0 (by simp) _ hb0).real rfl hg
    have hfl : flat [.sld (encs encStr L)] = encs encStr L := by simp [flat]
    rw [hfl] at hsz hcr
    rw [layStr.length, Nat.mul_one] at hsz hcr
    obtain ⟨us, vs', e1, e2, e3⟩ := CR.seal_iff.1 hcr
    rw [RL_strs] at e2
    obtain ⟨_, rfl⟩ := CR.nil_iff.1 e3
    have htk : cur.toList.take L.length = L.map Go.Proofs.encStr := by rw [e1, e2]; simp
    have hgs : g < w.heap.size := (Array.getElem?_eq_some_iff.1 hw).1
    have hH : Go.Sort.Holds Go.Proofs.encStr w g 0 L.toArray := by
      intro j hj
      have hj' : j < L.length := by simpa using hj
      refine ⟨?_, ?_⟩
      · have h1 : (cur.toList.take L.length)[j]? = (L.map Go.Proofs.encStr)[j]? := by rw [htk]
        rw [List.getElem?_take_of_lt hj'] at h1
        simp only [World.cell?, hw, Nat.zero_add]
        simp only [Option.isSome_none, Bool.false_eq_true, if_false]
        rw [← Array.getElem?_toList, h1]
        simp [hj']
      · simp only [World.frozen?, hw, Nat.zero_add]
        rcases hfr with h | h <;> simp <;> omega
    refine (Any.slices_Sort_string Tryz.lays190 g 0 cap L w hH hgs (by omega)).mono ?_
    rintro e' w' ⟨rfl, n, os, rfl⟩
    have hsl : (srt L).length = L.length := by simp [srt]
    have G1 := Good.writeC (F := []) (cs := Go.Sort.putCells Go.Proofs.encStr 0 (srt L).toArray cur) (blk' := ([.sld (encs encStr (srt L))], tStr)) pre1 (b := 0) (by simp) hb0 hg hw rfl (by simp [Go.Sort.putCells]) hfr (List.nil_sublist _) (by
      refine ⟨?_, ?_⟩
      · simp [flat, layStr.length, hsl, Go.Sort.putCells]; omega
      · have e5 : (flat [.sld (encs encStr (srt L))]).length = (srt L).length := by simp [flat, layStr.length]
        rw [e5, take_putCells cur (srt L) (by omega)]
        exact CR.sealed ((RL_strs _ _).2 rfl))
    have hgb : (w.setRow g (Go.Sort.putCells Go.Proofs.encStr 0 (srt L).toArray cur)).grownBy (Go.Sort.grow (Go.Sort.putRow Go.Proofs.encStr (Go.Sort.ahead w n) g 0 (srt L).toArray) os) none := by
      refine ⟨rfl, rfl, rfl, by simp [Go.Sort.grow, Go.Sort.putRow, Go.Sort.mapBlock, Go.Sort.ahead], fun k hk _ => ?_⟩
      by_cases hkg : k = g
      · subst hkg
        rw [heap_sorted _ hw, setRow_heap w k cur _ _ fr hw]
      · rw [setRow_other w g k _ hkg]
        exact (grownBy_sorted (w := w) (g := g) (n := n) (os := os) (srt L).toArray).block k (by simpa using hk) (by simpa using fun e => hkg (by first | exact e | exact e.symm))
    have pre2 := G1.pre (by simp) pre1 hdom 1
    have G2 := Good.grownStep pre2 hgb
    exact ⟨_, _, I, rfl, (by simp only [V.R, V.RL]; exact ⟨#[], rfl, rfl⟩), G1.trans G2 (by simp) (by simp) (by simp) (fun b hb ⟨blk, h⟩ => by
      obtain rfl : b = 0 := by simp at hb; omega
      exact ⟨_, rfl⟩) (fun b hb h => h) (by simp) (by simp) (by simp)⟩
  · obtain rfl : L = [] := List.eq_nil_of_length_eq_zero h0
    refine (Any.slices_Sort_string_none Tryz.lays190 a 0 w).mono ?_
    rintro e' w' ⟨rfl, rfl⟩
    have G := Good.same _ pre1
    rw [show srt [] = [] from by simp [srt]]
    exact ⟨_, μ, I, rfl, (by simp only [V.R, V.RL]; exact ⟨#[], rfl, rfl⟩), ⟨G.isub, fun k hk => .inl hk, G.evo.mono (fun k hk => by simp at hk), G.le, G.dom, fun _ _ _ => rfl, G.holds, fun b hb blk h g hg => by
      rcases hb with hb | hb
      · exact absurd (at_lt h) (by simp at hb ⊢; omega)
      · simp at hb; subst hb
        exact .inr ⟨0, by simp, hg, _, rfl⟩, G.inj⟩⟩
end Go.Proofs.YtfncaghjfgnnhaaGreatDoor

namespace Go.Proofs.YtfncaghjfgnnhaaGreatDoor
open Go.RowKit
set_option maxRecDepth 100000

def encKV (x : List UInt8 × J) : List V := [.str x.1, .agg (vwJ x.2)]
theorem vwJ_inj {i j : J} (h : vwJ i = vwJ j) : i = j := encJ_inj i j (by rw [encJ_vw, encJ_vw, h])
theorem encKV_inj : ∀ L M : List (List UInt8 × J), encs encKV L = encs encKV M → L = M
  | [], [], _ => rfl
  | [], y :: M, h => by have := congrArg List.length h; simp [encs, encKV] at this
  | x :: L, [], h => by have := congrArg List.length h; simp [encs, encKV] at this
  | (k, j) :: L, (k', j') :: M, h => by
    rw [encs_cons, encs_cons] at h
    simp only [encKV, List.cons_append, List.nil_append, List.cons.injEq, V.str.injEq, V.agg.injEq] at h
    obtain ⟨h1, h2, h3⟩ := h
    rw [h1, vwJ_inj h2, encKV_inj L M h3]
theorem decKV (L : List (List UInt8 × J)) : decL encKV (encs encKV L) = L := by
  have he : ∃ M, encs encKV M = encs encKV L := ⟨L, rfl⟩
  unfold decL
  rw [dif_pos he]
  exact encKV_inj _ _ he.choose_spec
theorem kvGet_find (k : List UInt8) : ∀ m : List (List UInt8 × J), KFind (.str k) (encs encKV m) = some ((kvGet k m).map fun j => .agg (vwJ j))
  | [] => rfl
  | (k', j) :: m => by
    rw [encs_cons]
    have ih := kvGet_find k m
    show KFind (.str k) (.str k' :: .agg (vwJ j) :: encs encKV m) = _
    unfold KFind
    unfold keyEq kvGet
    cases h : k == k' with
    | true => simp [h]
    | false => simp [h, ih]
theorem kvPut_put (k : List UInt8) (j : J) : ∀ m : List (List UInt8 × J), KPut (.str k) (.agg (vwJ j)) (encs encKV m) = some (encs encKV (kvPut k j m))
  | [] => rfl
  | (k', j') :: m => by
    rw [encs_cons]
    have ih := kvPut_put k j m
    show KPut (.str k) (.agg (vwJ j)) (.str k' :: .agg (vwJ j') :: encs encKV m) = _
    unfold KPut
    unfold keyEq kvPut
    cases h : k == k' with
    | true => simp [h, encs_cons, encKV]
    | false => simp [h, ih, encs_cons, encKV]
def vwO (o : Option J) : List V := [.int .i64 (o.getD J.zero).kind, .int .i64 (o.getD J.zero).n, .str (o.getD J.zero).t, .dsl (o.getD J.zero).keys.length (!o.isSome) (encs encStr (o.getD J.zero).keys), .dsl (o.getD J.zero).items.length (!o.isSome) (encs encJ (o.getD J.zero).items)]
noncomputable def mpKV : MapE where
  look := fun _ c k => match k with
    | .str k => some ⟨kvGet k (decL encKV c), fun y => (y.isSome, .agg (vwO y))⟩
    | _ => none
  put := fun _ c k v => match k, v with
    | .str k, .agg [.int _ a, .int _ b, .str t, .dsl _ _ ks, .dsl _ _ its] => some ⟨kvPut k (jOf a b t ks its) (decL encKV c), fun y => encs encKV y⟩
    | _, _ => none
abbrev tMapJ : Nat := 99
def mcB (b : Nat) : Option Blk := some ([.box .map [.ptr b 0]], tMapJ)
def mpB (m : List (List UInt8 × J)) : Option Blk := some ([.sld (.slo [] :: encs encKV m)], mapTid)
def obB (ks : List (List UInt8)) : Option Blk := some ([.int .i64 5, .int .i64 0, .str [], .osl 9 ks.length false (encs encStr ks), .osl tJ 0 false []], tJ)

noncomputable def resO1 (val : RS → J × RS) : ResT := fun f vs hp => match vs, hp with
  | [.ptr 0 0, .int _ _], [some ([.str t, .int _ i, .bool bad, .int _ room], _)] => bif Nat.beq f fVal then some ⟨val ⟨t.drop i.toNat, bad, room⟩, fun y => ⟨.agg (vwJ y.1), [rsB t y.2], [0]⟩⟩ else none
  | [.ptr 0 0], [some ([.str t, .int _ i, .bool bad, .int _ room], _)] => bif Nat.beq f fText then some ⟨txtE bad (t.drop i.toNat), fun y => ⟨.str y.1, [rsB t ⟨y.2.2, y.2.1, room⟩], [0]⟩⟩ else none
  | vs, hp => resRd f vs hp
noncomputable def EO1 (val : RS → J × RS) : Env := { P := Tryz.prog, vw := vwA, res := resO1 val, mp := mpKV }
--FOLD vwJ rdI prB dpB rsB
set_option maxRecDepth 100000 in
theorem iob1T (val : RS → J × RS) (t : List UInt8) (ks : List (List UInt8)) (m : List (List UInt8 × J)) (d i : Int) (bad : Bool) (room : Int) : fnT (EO1 val) 2 fObj1 [.ptr 0 0, .ptr 1 0, .ptr 2 0, .ptr 3 0] [prB 4, dpB d, mcB 5, obB ks, rdI t i bad room, mpB m] =
 T.bind (RS.want (RS.mk (List.drop (Int.toNat i) t) bad room) [(34 : UInt8)]) fun y0 =>
 T.need [FnOK (Env.P (EO1 val)) 97 [V.ptr 0 0, V.str [34]] [rdI t i bad room] (Ret.mk (V.tup []) [rdI t (↑(pos' t (RS.s y0)) : Int) (RS.bad y0) (RS.room y0)] [0])]
 (T.bind (txtE (RS.bad y0) (List.drop (Int.toNat (↑(pos' t (RS.s y0)) : Int)) t)) fun y1 =>
 T.need
 [FnOK (Env.P (EO1 val)) 74 [V.ptr 0 0] [rdI t (↑(pos' t (RS.s y0)) : Int) (RS.bad y0) (RS.room y0)]
 (Ret.mk (V.str (Prod.fst y1))
 [rdI t (↑(pos' t (RS.s (RS.mk (Prod.snd (Prod.snd y1)) (Prod.fst (Prod.snd y1)) (RS.room y0)))) : Int) (RS.bad (RS.mk (Prod.snd (Prod.snd y1)) (Prod.fst (Prod.snd y1)) (RS.room y0)))
 (RS.room (RS.mk (Prod.snd (Prod.snd y1)) (Prod.fst (Prod.snd y1)) (RS.room y0)))]
 [0])]
 (T.bind
 (RS.want
 (RS.mk (List.drop (Int.toNat (↑(pos' t (RS.s (RS.mk (Prod.snd (Prod.snd y1)) (Prod.fst (Prod.snd y1)) (RS.room y0)))) : Int)) t) (RS.bad (RS.mk (Prod.snd (Prod.snd y1)) (Prod.fst (Prod.snd y1)) (RS.room y0)))
 (RS.room (RS.mk (Prod.snd (Prod.snd y1)) (Prod.fst (Prod.snd y1)) (RS.room y0))))
 [(58 : UInt8)])
 fun y2 =>
 T.need
 [FnOK (Env.P (EO1 val)) 97 [V.ptr 0 0, V.str [58]]
 [rdI t (↑(pos' t (RS.s (RS.mk (Prod.snd (Prod.snd y1)) (Prod.fst (Prod.snd y1)) (RS.room y0)))) : Int) (RS.bad (RS.mk (Prod.snd (Prod.snd y1)) (Prod.fst (Prod.snd y1)) (RS.room y0)))
 (RS.room (RS.mk (Prod.snd (Prod.snd y1)) (Prod.fst (Prod.snd y1)) (RS.room y0)))]
 (Ret.mk (V.tup []) [rdI t (↑(pos' t (RS.s y2)) : Int) (RS.bad y2) (RS.room y2)] [0])]
 (T.bind (val (RS.mk (List.drop (Int.toNat (↑(pos' t (RS.s y2)) : Int)) t) (RS.bad y2) (RS.room y2))) fun y3 =>
 T.need
 [FnOK (Env.P (EO1 val)) 47 [V.ptr 0 0, V.int IntKind.i64 (IntKind.wrap IntKind.i64 (d + (1 : Int)))] [rdI t (↑(pos' t (RS.s y2)) : Int) (RS.bad y2) (RS.room y2)]
 (Ret.mk (V.agg (vwJ (Prod.fst y3))) [rdI t (↑(pos' t (RS.s (Prod.snd y3))) : Int) (RS.bad (Prod.snd y3)) (RS.room (Prod.snd y3))] [0])]
 (T.bind (MLk.v (MLk.mk (kvGet (Prod.fst y1) (decL encKV (encs encKV m))) fun y => (Option.isSome y, V.agg (vwO y)))) fun y4 =>
 T.need
 [(Option.isSome y4 = true →
 KFind (V.str (Prod.fst y1)) (encs encKV m) =
 some
 (some
 (V.agg
 [V.int IntKind.i64 (J.kind (Option.getD y4 (J.mk (0 : Int) (0 : Int) [] [] []))), V.int IntKind.i64 (J.n (Option.getD y4 (J.mk (0 : Int) (0 : Int) [] [] []))),
 V.str (J.t (Option.getD y4 (J.mk (0 : Int) (0 : Int) [] [] []))),
 V.dsl (List.length (J.keys (Option.getD y4 (J.mk (0 : Int) (0 : Int) [] [] [])))) (!Option.isSome y4) (encs encStr (J.keys (Option.getD y4 (J.mk (0 : Int) (0 : Int) [] [] [])))),
 V.dsl (List.length (J.items (Option.getD y4 (J.mk (0 : Int) (0 : Int) [] [] [])))) (!Option.isSome y4) (encs encJ (J.items (Option.getD y4 (J.mk (0 : Int) (0 : Int) [] [] []))))]))) ∧
 (Option.isSome y4 = false →
 KFind (V.str (Prod.fst y1)) (encs encKV m) = some none ∧
 V.agg
 [V.int IntKind.i64 (J.kind (Option.getD y4 (J.mk (0 : Int) (0 : Int) [] [] []))), V.int IntKind.i64 (J.n (Option.getD y4 (J.mk (0 : Int) (0 : Int) [] [] []))),
 V.str (J.t (Option.getD y4 (J.mk (0 : Int) (0 : Int) [] [] []))),
 V.dsl (List.length (J.keys (Option.getD y4 (J.mk (0 : Int) (0 : Int) [] [] [])))) (!Option.isSome y4) (encs encStr (J.keys (Option.getD y4 (J.mk (0 : Int) (0 : Int) [] [] [])))),
 V.dsl (List.length (J.items (Option.getD y4 (J.mk (0 : Int) (0 : Int) [] [] [])))) (!Option.isSome y4) (encs encJ (J.items (Option.getD y4 (J.mk (0 : Int) (0 : Int) [] [] []))))] =
 V.agg [V.int IntKind.i64 (0 : Int), V.int IntKind.i64 (0 : Int), V.str [], V.dsl 0 true [], V.dsl 0 true []])]
 (bif Option.isSome y4 then
 T.bind
 (MPt.v
 (MPt.mk
 (kvPut (Prod.fst y1) (jOf (J.kind (Prod.fst y3)) (J.n (Prod.fst y3)) (J.t (Prod.fst y3)) (encs encStr (J.keys (Prod.fst y3))) (encs encJ (J.items (Prod.fst y3)))) (decL encKV (encs encKV m)))
 fun y => encs encKV y))
 fun y5 =>
 T.need
 [KPut (V.str (Prod.fst y1)) (V.agg (vwJ (Prod.fst y3))) (encs encKV m) =
 some
 (MPt.r
 (MPt.mk
 (kvPut (Prod.fst y1) (jOf (J.kind (Prod.fst y3)) (J.n (Prod.fst y3)) (J.t (Prod.fst y3)) (encs encStr (J.keys (Prod.fst y3))) (encs encJ (J.items (Prod.fst y3))))
 (decL encKV (encs encKV m)))
 fun y => encs encKV y)
 y5)]
 (T.need
 [0 = 0, List.length (encs encStr ks) = List.length ks * 1, List.length ks + 1 ≤ 9223372036854775807,
 (List.length ks + 1) * 16 ≤ 140737488355328]
 (T.done
 (Ret.mk (V.tup [])
 [prB 4, dpB d, some ([V.box BK.map [V.ptr 5 0]], 99),
 some ([V.int IntKind.i64 (5 : Int), V.int IntKind.i64 (0 : Int), V.str [], V.sl 6 0 (List.length ks + 1) false, V.osl 25 0 false []], 25),
 rdI t (↑(pos' t (RS.s (Prod.snd y3))) : Int) true (RS.room (Prod.snd y3)),
 some
 ([V.sld
 (V.slo [] ::
 MPt.r
 (MPt.mk
 (kvPut (Prod.fst y1) (jOf (J.kind (Prod.fst y3)) (J.n (Prod.fst y3)) (J.t (Prod.fst y3)) (encs encStr (J.keys (Prod.fst y3))) (encs encJ (J.items (Prod.fst y3))))
 (decL encKV (encs encKV m)))
 fun y => encs encKV y)
 y5)],
 4294967291),
 some ([V.sld (encs encStr ks ++ [V.str (Prod.fst y1)])], 9)]
 [4, 5, 3])))
 else
 T.bind
 (MPt.v
 (MPt.mk
 (kvPut (Prod.fst y1) (jOf (J.kind (Prod.fst y3)) (J.n (Prod.fst y3)) (J.t (Prod.fst y3)) (encs encStr (J.keys (Prod.fst y3))) (encs encJ (J.items (Prod.fst y3)))) (decL encKV (encs encKV m)))
 fun y => encs encKV y))
 fun y6 =>
 T.need
 [KPut (V.str (Prod.fst y1)) (V.agg (vwJ (Prod.fst y3))) (encs encKV m) =
 some
 (MPt.r
 (MPt.mk
 (kvPut (Prod.fst y1) (jOf (J.kind (Prod.fst y3)) (J.n (Prod.fst y3)) (J.t (Prod.fst y3)) (encs encStr (J.keys (Prod.fst y3))) (encs encJ (J.items (Prod.fst y3))))
 (decL encKV (encs encKV m)))
 fun y => encs encKV y)
 y6)]
 (T.need
 [0 = 0, List.length (encs encStr ks) = List.length ks * 1, List.length ks + 1 ≤ 9223372036854775807,
 (List.length ks + 1) * 16 ≤ 140737488355328]
 (T.done
 (Ret.mk (V.tup [])
 [prB 4, dpB d, some ([V.box BK.map [V.ptr 5 0]], 99),
 some ([V.int IntKind.i64 (5 : Int), V.int IntKind.i64 (0 : Int), V.str [], V.sl 6 0 (List.length ks + 1) false, V.osl 25 0 false []], 25),
 rdI t (↑(pos' t (RS.s (Prod.snd y3))) : Int) (RS.bad (Prod.snd y3)) (RS.room (Prod.snd y3)),
 some
 ([V.sld
 (V.slo [] ::
 MPt.r
 (MPt.mk
 (kvPut (Prod.fst y1) (jOf (J.kind (Prod.fst y3)) (J.n (Prod.fst y3)) (J.t (Prod.fst y3)) (encs encStr (J.keys (Prod.fst y3))) (encs encJ (J.items (Prod.fst y3))))
 (decL encKV (encs encKV m)))
 fun y => encs encKV y)
 y6)],
 4294967291),
 some ([V.sld (encs encStr ks ++ [V.str (Prod.fst y1)])], 9)]
 [4, 5, 3])))))))) := (T.force_eq _).symm.trans (by kernel_rfl)
theorem RIn.sub {t : List UInt8} {r r' : RS} (h : RIn t r) (hs : r'.s <:+ r.s) (hr : r'.room = r.room) : RIn t r' := ⟨hs.trans h.suf, by have := h.lo; have := hs.length_le; rw [hr]; omega, by rw [hr]; exact h.hi⟩
theorem objStep_out {val : RS → J × RS} (hV : ∀ r, ROut r (val r).2) (r : RS) (a : KM) : ROut r (objStep val r a).1 := by
  have key : ∀ r2 : RS, r2.s <:+ r.s → r2.room = r.room → ∀ b, ROut r ⟨(val r2).2.s, b, (val r2).2.room⟩ := fun r2 h hr b => by
    have h4 := hV r2
    have l := h.length_le
    exact ⟨h4.suf.trans h, by have := h4.lo; show r.room - 1 ≤ (val r2).2.room + 2 * ((r.s.length : Int) - (val r2).2.s.length); omega, by have := h4.hi; show (val r2).2.room ≤ r.room; omega⟩
  exact key ((RS.mk (txtE (r.want [34]).bad (r.want [34]).s).2.2 (txtE (r.want [34]).bad (r.want [34]).s).2.1 (r.want [34]).room).want [58]) ((want_suf _ _).trans ((txtE_suf _ _).trans (want_suf _ _))) rfl _
theorem vwO_none : vwO none = [.int .i64 0, .int .i64 0, .str [], .dsl 0 true [], .dsl 0 true []] := rfl
theorem vwO_some (j : J) : vwO (some j) = vwJ j := rfl
theorem obj1_ok {t : List UInt8} {d : Int} {val : RS → J × RS} (ht : t.length ≤ 1000000) (hd : 0 ≤ d ∧ d ≤ 1000) (hV : ValOK t (d + 1) val) (r : RS) (hr : RIn t r) (a : KM) (hL : a.ks.length ≤ 1048576) :
    FnOK Tryz.prog fObj1 [.ptr 0 0, .ptr 1 0, .ptr 2 0, .ptr 3 0] [prB 4, dpB d, mcB 5, obB a.ks, rsB t r, mpB a.m] ⟨.tup [], [prB 4, dpB d, mcB 5, obB (objStep val r a).2.ks, rsB t (objStep val r a).1, mpB (objStep val r a).2.m, none], [4, 5, 3, 3]⟩ := by
  have h1 : FnOK Tryz.prog fObj1 [.ptr 0 0, .ptr 1 0, .ptr 2 0, .ptr 3 0] [prB 4, dpB d, mcB 5, obB a.ks, rsB t r, mpB a.m] ⟨.tup [], [prB 4, dpB d, mcB 5, some ([.int .i64 5, .int .i64 0, .str []] ++ .sl 6 0 (a.ks.length + 1) false :: [.osl tJ 0 false []], tJ), rsB t (objStep val r a).1, mpB (objStep val r a).2.m, some ([.sld (encs encStr (objStep val r a).2.ks)], tStr)], [4, 5, 3]⟩ := by
    refine fnOK_TL (E := EO1 val) follows named (iob1T val t a.ks a.m d (pos' t r.s : Nat) r.bad r.room) (by simp) ?_
    simp only [WP_cond, T.WP, All, and_true, rs_eta hr.suf]
    rintro y0 rfl
    have s1 : (r.want [34]).s <:+ t := (want_suf _ _).trans hr.suf
    refine ⟨wt_ok _ (by omega) r hr.suf, ?_⟩
    rw [Int.toNat_natCast, drop_pos s1]
    rintro y1 rfl
    have s2 := (txtE_suf (r.want [34]).bad (r.want [34]).s).trans s1
    refine ⟨text_ok idxB_ok (by omega) s1 _ _, ?_⟩
    rw [Int.toNat_natCast, drop_pos s2]
    rintro y2 rfl
    have c2 := wt_ok [58] (by omega) ⟨(txtE (r.want [34]).bad (r.want [34]).s).2.2, (txtE (r.want [34]).bad (r.want [34]).s).2.1, (r.want [34]).room⟩ s2
    refine ⟨c2, ?_⟩
    have s3 := (want_suf ⟨(txtE (r.want [34]).bad (r.want [34]).s).2.2, (txtE (r.want [34]).bad (r.want [34]).s).2.1, (r.want [34]).room⟩ [58]).trans s2
    rw [rs_eta s3]
    rintro y3 rfl
    have hw : IntKind.i64.wrap (d + 1) = d + 1 := wrap_id (by omega)
    rw [hw]
    refine ⟨hV.run _ (hr.sub ((want_suf _ _).trans ((txtE_suf _ _).trans (want_suf _ _))) rfl), ?_⟩
    rintro y4 rfl
    rw [decKV]
    simp only [jOf_vw, layStr.length, show J.mk 0 0 [] [] [] = J.zero from rfl]
    have f1 := kvGet_find (txtE (r.want [34]).bad (r.want [34]).s).1 a.m
    have f2 := fun j => kvPut_put (txtE (r.want [34]).bad (r.want [34]).s).1 j a.m
    have eo : objStep val r a = (⟨(val ((RS.mk (txtE (r.want [34]).bad (r.want [34]).s).2.2 (txtE (r.want [34]).bad (r.want [34]).s).2.1 (r.want [34]).room).want [58])).2.s, (val ((RS.mk (txtE (r.want [34]).bad (r.want [34]).s).2.2 (txtE (r.want [34]).bad (r.want [34]).s).2.1 (r.want [34]).room).want [58])).2.bad || (kvGet (txtE (r.want [34]).bad (r.want [34]).s).1 a.m).isSome, (val ((RS.mk (txtE (r.want [34]).bad (r.want [34]).s).2.2 (txtE (r.want [34]).bad (r.want [34]).s).2.1 (r.want [34]).room).want [58])).2.room⟩, ⟨a.ks ++ [(txtE (r.want [34]).bad (r.want [34]).s).1], kvPut (txtE (r.want [34]).bad (r.want [34]).s).1 (val ((RS.mk (txtE (r.want [34]).bad (r.want [34]).s).2.2 (txtE (r.want [34]).bad (r.want [34]).s).2.1 (r.want [34]).room).want [58])).1 a.m⟩) := rfl
    rw [eo]
    generalize val ((RS.mk (txtE (r.want [34]).bad (r.want [34]).s).2.2 (txtE (r.want [34]).bad (r.want [34]).s).2.1 (r.want [34]).room).want [58]) = v at *
    generalize (txtE (r.want [34]).bad (r.want [34]).s).1 = k at *
    rw [f1]
    cases hk : kvGet k a.m with
    | none =>
      simp only [Option.isSome_none, Option.map_none, Bool.false_eq_true, false_implies, true_and, forall_const, Option.getD_none, Bool.or_false, Bool.not_false]
      refine ⟨rfl, ?_⟩
      rintro y5 rfl
      refine ⟨f2 _, ⟨by omega, by omega⟩, rfl, ?_, fun b hb => hb⟩
      rw [encs_snoc]; rfl
    | some j =>
      simp only [Option.isSome_some, Option.map_some, false_implies, true_and, and_true, forall_const, Option.getD_some, Bool.or_true, Bool.not_true, reduceCtorEq]
      refine ⟨rfl, ?_⟩
      rintro y5 rfl
      refine ⟨f2 _, ⟨by omega, by omega⟩, rfl, ?_, fun b hb => hb⟩
      rw [encs_snoc]; rfl
  have h2 := h1.prepOut (prepPack (b := 3) (c := 6) (pr := [.int .i64 5, .int .i64 0, .str []]) (po := [.osl tJ 0 false []]) (by decide) rfl rfl rfl)
  have h3 := h2.more (wr := [4, 5, 3, 3]) (by simp [mem_lows]) (by simp)
  have e : obB (objStep val r a).2.ks = some ([.int .i64 5, .int .i64 0, .str []] ++ .osl tStr (a.ks.length + 1) (hasO [.sld (encs encStr (objStep val r a).2.ks)]) (flat [.sld (encs encStr (objStep val r a).2.ks)]) :: [.osl tJ 0 false []], tJ) := by
    simp [obB, objStep, flat, hasO]
  rw [e]
  exact h3
end Go.Proofs.YtfncaghjfgnnhaaGreatDoor

namespace Go.Proofs.YtfncaghjfgnnhaaGreatDoor
open Go.RowKit
set_option maxRecDepth 100000

noncomputable def resPo (val : RS → J × RS) : ResT := fun f vs hp => match vs, hp with
  | [.ptr 0 0, .ptr 1 0, .ptr 2 0, .ptr 3 0], [some _, some ([.int _ d], _), some _, some ([_, _, _, .osl _ _ _ cs, _], _), some ([.str t, .int _ i, .bool bad, .int _ room], _), some ([.sld (_ :: mc)], _)] =>
    bif Nat.beq f fObj1 then some ⟨objStep val ⟨t.drop i.toNat, bad, room⟩ ⟨decL encStr cs, decL encKV mc⟩, fun y => ⟨.tup [], [prB 4, dpB d, mcB 5, obB y.2.ks, rsB t y.1, mpB y.2.m, none], [4, 5, 3, 3]⟩⟩ else none
  | vs, hp => resRd f vs hp
noncomputable def EPo (val : RS → J × RS) : Env := { P := Tryz.prog, vw := vwA, res := resPo val }
def stPo (t : List UInt8) (e : List UInt8) (a : KM) (d i : Int) (bad : Bool) (room : Int) : St := ⟨mkTm 21 [(0, .ptr 0 0), (1, .str e), (2, .fn fObj1 [.ptr 1 0, .ptr 2 0, .ptr 3 0, .ptr 4 0])], [rdI t i bad room, prB 0, dpB d, mcB 5, obB a.ks, mpB a.m], [0, 4, 5]⟩
def nfPo : Ex → Kp := fun ex => match ex with
  | .normal => { keep := [0, 1, 2], wr := [0, 4, 5] }
  | _ => { keep := [], wr := [0, 4, 5] }
--FOLD vwJ rdI prB dpB rsB mcB obB mpB
set_option maxRecDepth 100000 in
theorem partO0 (val : RS → J × RS) (t e : List UInt8) (a : KM) (d i : Int) (bad : Bool) (room : Int) : bodyT (EPo val) 6 nfPo (lp Tryz.prog fParts 0) (stPo t e a d i bad room) =
 bif !bad then
 T.bind (objStep val (RS.mk (List.drop (Int.toNat i) t) bad room) (KM.mk (decL encStr (encs encStr (KM.ks a))) (decL encKV (encs encKV (KM.m a))))) fun y0 =>
 T.need
 [FnOK (Env.P (EPo val)) 98 [V.ptr 0 0, V.ptr 1 0, V.ptr 2 0, V.ptr 3 0]
 [prB 4, dpB d, mcB 5, obB (KM.ks a), rdI t i bad room, mpB (KM.m a)]
 (Ret.mk (V.tup []) [prB 4, dpB d, mcB 5, obB (KM.ks (Prod.snd y0)), rdI t (↑(pos' t (RS.s (Prod.fst y0))) : Int) (RS.bad (Prod.fst y0)) (RS.room (Prod.fst y0)), mpB (KM.m (Prod.snd y0)), none]
 [4, 5, 3, 3])]
 (T.bind (RS.tk (RS.mk (List.drop (Int.toNat (↑(pos' t (RS.s (Prod.fst y0))) : Int)) t) (RS.bad (Prod.fst y0)) (RS.room (Prod.fst y0))) e) fun y1 =>
 T.need
 [FnOK (Env.P (EPo val)) 73 [V.ptr 0 0, V.str e] [rdI t (↑(pos' t (RS.s (Prod.fst y0))) : Int) (RS.bad (Prod.fst y0)) (RS.room (Prod.fst y0))]
 (Ret.mk (V.bool (Prod.fst y1)) [rdI t (↑(pos' t (RS.s (Prod.snd y1))) : Int) (RS.bad (Prod.snd y1)) (RS.room (Prod.snd y1))] [0])]
 (bif Prod.fst y1 then
 T.done
 (Ex.ret,
 St.mk (mkTm 21 [])
 [rdI t (↑(pos' t (RS.s (Prod.snd y1))) : Int) (RS.bad (Prod.snd y1)) (RS.room (Prod.snd y1)), prB 0, dpB d, mcB 5, obB (KM.ks (Prod.snd y0)), mpB (KM.m (Prod.snd y0))]
 [0, 4, 5])
 else
 T.bind (RS.want (RS.mk (List.drop (Int.toNat (↑(pos' t (RS.s (Prod.snd y1))) : Int)) t) (RS.bad (Prod.snd y1)) (RS.room (Prod.snd y1))) [(44 : UInt8)]) fun y2 =>
 T.need
 [FnOK (Env.P (EPo val)) 97 [V.ptr 0 0, V.str [44]] [rdI t (↑(pos' t (RS.s (Prod.snd y1))) : Int) (RS.bad (Prod.snd y1)) (RS.room (Prod.snd y1))]
 (Ret.mk (V.tup []) [rdI t (↑(pos' t (RS.s y2)) : Int) (RS.bad y2) (RS.room y2)] [0])]
 (T.done
 (Ex.normal,
 St.mk
 (mkTm 21
 [(0, V.ptr 0 0), (1, V.str e),
 (2, V.fn 98 [V.ptr 1 0, V.ptr 2 0, V.ptr 3 0, V.ptr 4 0])])
 [rdI t (↑(pos' t (RS.s y2)) : Int) (RS.bad y2) (RS.room y2), prB 0, dpB d, mcB 5, obB (KM.ks (Prod.snd y0)), mpB (KM.m (Prod.snd y0))] [0, 4, 5]))))
 else T.done (Ex.exit 0, St.mk (mkTm 21 []) [rdI t i bad room, prB 0, dpB d, mcB 5, obB (KM.ks a), mpB (KM.m a)] [0, 4, 5]) := by kernel_rfl
theorem objStep_len (val : RS → J × RS) (r : RS) (a : KM) : (objStep val r a).2.ks.length = a.ks.length + 1 := by simp [objStep]
theorem partO_loop {t e : List UInt8} {d : Int} {val : RS → J × RS} (ht : t.length ≤ 1000000) (hd : 0 ≤ d ∧ d ≤ 1000) (hV : ValOK t (d + 1) val) : ∀ (n : Nat) (r : RS) (a : KM), r.s <:+ t → (r.bad = false → RIn t r ∧ a.ks.length + r.s.length ≤ t.length + 1 ∧ r.s.length + 2 ≤ n) → 1 ≤ n →
    LoopTo Tryz.prog 6 (lp Tryz.prog fParts 0) (stPo t e a d (pos' t r.s : Nat) r.bad r.room) (bif (partsL e (objStep val) n r a).1.bad then .exit 0 else .ret) ⟨mkTm 21 [], [rsB t (partsL e (objStep val) n r a).1, prB 0, dpB d, mcB 5, obB (partsL e (objStep val) n r a).2.ks, mpB (partsL e (objStep val) n r a).2.m], [0, 4, 5]⟩
  | 0, r, a, hs, hr, hn => by omega
  | n + 1, ⟨s, true, room⟩, a, hs, hr, hn => by
    have tree := partO0 val t e a d (pos' t s : Nat) true room
    rw [partsL_bad]
    refine loopT (E := EPo val) follows named tree ?_
    simp only [WP_cond, T.WP, All, and_true]
    exact ⟨fun h => by simp at h, fun _ => ⟨rfl, rfl⟩⟩
  | n + 1, ⟨s, false, room⟩, a, hs, hr, hn => by
    have tree := partO0 val t e a d (pos' t s : Nat) false room
    rw [rs_eta' hs, layStr.decL, decKV] at tree
    obtain ⟨hI, hL, hn2⟩ := hr rfl
    have o1 : ROut ⟨s, false, room⟩ (objStep val ⟨s, false, room⟩ a).1 := objStep_out hV.out _ _
    have c1 := obj1_ok ht hd hV _ hI a (by omega)
    rw [partsL_on _ _ _ _ rfl]
    have hlen := objStep_len val ⟨s, false, room⟩ a
    generalize objStep val ⟨s, false, room⟩ a = y1 at *
    obtain ⟨r1, a1⟩ := y1
    have s1 : r1.s <:+ t := o1.suf.trans hs
    have s2 : (r1.tk e).2.s <:+ t := (tk_suf _ e).trans s1
    have s3 : ((r1.tk e).2.want [44]).s <:+ t := (want_suf _ _).trans s2
    have c2 := tk_ok e (by omega) r1 s1
    have c3 := wt_ok [44] (by omega) (r1.tk e).2 s2
    cases hk : (r1.tk e).1 with
    | true =>
      have hb2 : (r1.tk e).2.bad = false := (tkB_len hk).2
      refine loopT (E := EPo val) follows named tree ?_
      simp only [WP_cond, T.WP, All, and_true, cond_true, hb2, cond_false]
      refine ⟨fun _ => ?_, fun h => by simp at h⟩
      rintro y rfl
      refine ⟨c1, ?_⟩
      simp only [rs_eta s1]
      rintro y rfl
      refine ⟨c2, fun _ => ⟨rfl, ?_⟩, fun h => by rw [hk] at h; cases h⟩
      simp only [rsB, hb2]
    | false =>
      simp only [cond_false]
      have ih := partO_loop (e := e) ht hd hV n ((r1.tk e).2.want [44]) a1 s3 (fun hb3 => by
        obtain ⟨q1, q2⟩ := part_on hs hI o1 hb3
        simp only at hlen q2 hL hn2
        exact ⟨q1, by omega, by omega⟩) (by omega)
      refine loopT (E := EPo val) follows named tree ?_
      simp only [WP_cond, T.WP, All, and_true]
      refine ⟨fun _ => ?_, fun h => by simp at h⟩
      rintro y rfl
      refine ⟨c1, ?_⟩
      simp only [rs_eta s1]
      rintro y rfl
      refine ⟨c2, (fun h => by rw [hk] at h; cases h), fun _ => ?_⟩
      simp only [rs_eta s2]
      rintro y rfl
      exact ⟨c3, ih⟩

noncomputable def lsPo (e : List UInt8) (val : RS → J × RS) : Nat → St → Option LRes := fun id s => match id, s.hp with
  | 0, [some ([.str t, .int _ i, .bool bad, .int _ room], _), some _, some ([.int _ d], _), some _, some ([_, _, _, .osl _ _ _ cs, _], _), some ([.sld (_ :: mc)], _)] =>
    some ⟨partsL e (objStep val) ((t.drop i.toNat).length + 2) ⟨t.drop i.toNat, bad, room⟩ ⟨decL encStr cs, decL encKV mc⟩, fun y => .two { keep := [0, 1, 2], wr := [0, 4, 5] } (stPo t e ⟨decL encStr cs, decL encKV mc⟩ d i bad room) y.1.bad (.exit 0) ⟨mkTm 21 [], [rsB t y.1, prB 0, dpB d, mcB 5, obB y.2.ks, mpB y.2.m], [0, 4, 5]⟩ .ret ⟨mkTm 21 [], [rsB t y.1, prB 0, dpB d, mcB 5, obB y.2.ks, mpB y.2.m], [0, 4, 5]⟩⟩
  | _, _ => none
set_option maxRecDepth 100000 in
theorem partsOT (val : RS → J × RS) (t e : List UInt8) (a : KM) (d i : Int) (bad : Bool) (room : Int) : fnT { P := Tryz.prog, vw := vwA, res := resPo val, ls := lsPo e val } 0 fParts [.ptr 0 0, .str e, .fn fObj1 [.ptr 1 0, .ptr 2 0, .ptr 3 0, .ptr 4 0]] [rdI t i bad room, prB 0, dpB d, mcB 5, obB a.ks, mpB a.m] =
 T.bind (RS.tk (RS.mk (List.drop (Int.toNat i) t) bad room) e) fun y0 =>
 T.need
 [FnOK (Env.P (Env.mk Tryz.prog vwA (resPo val) (lsPo e val) [] [] none (MapE.mk (fun _ _ _ => none) fun _ _ _ _ => none) fun _ _ _ _ _ => none)) 73 [V.ptr 0 0, V.str e]
 [rdI t i bad room] (Ret.mk (V.bool (Prod.fst y0)) [rdI t (↑(pos' t (RS.s (Prod.snd y0))) : Int) (RS.bad (Prod.snd y0)) (RS.room (Prod.snd y0))] [0])]
 (bif Prod.fst y0 then
 T.done (Ret.mk (V.tup []) [rdI t (↑(pos' t (RS.s (Prod.snd y0))) : Int) (RS.bad (Prod.snd y0)) (RS.room (Prod.snd y0)), prB 0, dpB d, mcB 5, obB (KM.ks a), mpB (KM.m a)] [0])
 else
 T.bind
 (partsL e (objStep val) (List.length (List.drop (Int.toNat (↑(pos' t (RS.s (Prod.snd y0))) : Int)) t) + 2)
 (RS.mk (List.drop (Int.toNat (↑(pos' t (RS.s (Prod.snd y0))) : Int)) t) (RS.bad (Prod.snd y0)) (RS.room (Prod.snd y0))) (KM.mk (decL encStr (encs encStr (KM.ks a))) (decL encKV (encs encKV (KM.m a)))))
 fun y1 =>
 T.need
 [St.mk
 (mkTm 21
 [(0, V.ptr 0 0), (1, V.str e), (2, V.fn 98 [V.ptr 1 0, V.ptr 2 0, V.ptr 3 0, V.ptr 4 0])])
 [rdI t (↑(pos' t (RS.s (Prod.snd y0))) : Int) (RS.bad (Prod.snd y0)) (RS.room (Prod.snd y0)), prB 0, dpB d, mcB 5, obB (KM.ks a), mpB (KM.m a)] [0, 4, 5] =
 St.mk
 (mkTm 21
 [(0, V.ptr 0 0), (1, V.str e), (2, V.fn 98 [V.ptr 1 0, V.ptr 2 0, V.ptr 3 0, V.ptr 4 0])])
 [rdI t (↑(pos' t (RS.s (Prod.snd y0))) : Int) (RS.bad (Prod.snd y0)) (RS.room (Prod.snd y0)), prB 0, dpB d, mcB 5,
 obB (KM.ks (KM.mk (decL encStr (encs encStr (KM.ks a))) (decL encKV (encs encKV (KM.m a))))), mpB (KM.m (KM.mk (decL encStr (encs encStr (KM.ks a))) (decL encKV (encs encKV (KM.m a)))))]
 [0, 4, 5]]
 (bif RS.bad (Prod.fst y1) then
 T.need
 [SoundC (Env.P (Env.mk Tryz.prog vwA (resPo val) (lsPo e val) [] [] none (MapE.mk (fun _ _ _ => none) fun _ _ _ _ => none) fun _ _ _ _ _ => none)) 6
 (Code.loop
 (Code.seq
 (Code.seq
 (Code.region 1
 #[Oper.mk (some 9) (Op.move (Operand.tmp 0)) 62 "l01_json.go:206" #[] none,
 Oper.mk (some 10) (Op.nilCheck (Operand.tmp 9)) 0 "l01_json.go:206" #[Edge.mk 0 Ground.data] none,
 Oper.mk (some 11) (Op.fieldAddr 64 (Operand.tmp 10) 2) 0 "l01_json.go:206" #[Edge.mk 1 Ground.data] none,
 Oper.mk (some 12) (Op.load 4 (Operand.tmp 11)) 4 "l01_json.go:206" #[Edge.mk 2 Ground.data] none,
 Oper.mk (some 13) (Op.unOp UnOp.not 4 (Operand.tmp 12)) 4 "l01_json.go:206" #[Edge.mk 3 Ground.data] none]
 false)
 (Code.cond (Operand.tmp 13) Code.skip (Code.exit 0)))
 (Code.block 1
 (Code.seq
 (Code.seq
 (Code.region 2
 #[Oper.mk (some 14) (Op.move (Operand.tmp 2)) 1 "l01_json.go:207" #[] none,
 Oper.mk (some 15) (Op.call (Call.mk (Callee.value (Operand.tmp 14)) #[] #[])) 0 "l01_json.go:207" #[Edge.mk 0 Ground.data] none]
 false)
 (Code.seq
 (Code.region 3
 #[Oper.mk (some 16) (Op.move (Operand.tmp 0)) 62 "l01_json.go:207" #[] none,
 Oper.mk (some 17) (Op.move (Operand.tmp 1)) 9 "l01_json.go:207" #[] none,
 Oper.mk (some 18) (Op.call (Call.mk (Callee.value (Operand.func 73)) #[Operand.tmp 16, Operand.tmp 17] #[62, 9])) 4
 "l01_json.go:207" #[Edge.mk 0 Ground.data, Edge.mk 1 Ground.data] none]
 false)
 (Code.cond (Operand.tmp 18) Code.ret Code.skip)))
 (Code.region 4
 #[Oper.mk (some 19) (Op.move (Operand.tmp 0)) 62 "l01_json.go:210" #[] none,
 Oper.mk (some 20)
 (Op.call (Call.mk (Callee.value (Operand.func 97)) #[Operand.tmp 19, Operand.const (Value.string (ByteArray.mk #[(44 : UInt8)]))] #[62, 9])) 0
 "l01_json.go:210" #[Edge.mk 0 Ground.data] none]
 false)))))
 (St.mk
 (mkTm 21
 [(0, V.ptr 0 0), (1, V.str e),
 (2, V.fn 98 [V.ptr 1 0, V.ptr 2 0, V.ptr 3 0, V.ptr 4 0])])
 [rdI t (↑(pos' t (RS.s (Prod.snd y0))) : Int) (RS.bad (Prod.snd y0)) (RS.room (Prod.snd y0)), prB 0, dpB d, mcB 5,
 obB (KM.ks (KM.mk (decL encStr (encs encStr (KM.ks a))) (decL encKV (encs encKV (KM.m a))))), mpB (KM.m (KM.mk (decL encStr (encs encStr (KM.ks a))) (decL encKV (encs encKV (KM.m a)))))]
 [0, 4, 5])
 (Ex.exit 0)
 (St.mk (mkTm 21 [])
 [rdI t (↑(pos' t (RS.s (Prod.fst y1))) : Int) (RS.bad (Prod.fst y1)) (RS.room (Prod.fst y1)), prB 0, dpB d, mcB 5, obB (KM.ks (Prod.snd y1)), mpB (KM.m (Prod.snd y1))]
 [0, 4, 5])]
 (T.done
 (Ret.mk (V.tup []) [rdI t (↑(pos' t (RS.s (Prod.fst y1))) : Int) (RS.bad (Prod.fst y1)) (RS.room (Prod.fst y1)), prB 0, dpB d, mcB 5, obB (KM.ks (Prod.snd y1)), mpB (KM.m (Prod.snd y1))]
 [0, 4, 5]))
 else
 T.need
 [SoundC (Env.P (Env.mk Tryz.prog vwA (resPo val) (lsPo e val) [] [] none (MapE.mk (fun _ _ _ => none) fun _ _ _ _ => none) fun _ _ _ _ _ => none)) 6
 (Code.loop
 (Code.seq
 (Code.seq
 (Code.region 1
 #[Oper.mk (some 9) (Op.move (Operand.tmp 0)) 62 "l01_json.go:206" #[] none,
 Oper.mk (some 10) (Op.nilCheck (Operand.tmp 9)) 0 "l01_json.go:206" #[Edge.mk 0 Ground.data] none,
 Oper.mk (some 11) (Op.fieldAddr 64 (Operand.tmp 10) 2) 0 "l01_json.go:206" #[Edge.mk 1 Ground.data] none,
 Oper.mk (some 12) (Op.load 4 (Operand.tmp 11)) 4 "l01_json.go:206" #[Edge.mk 2 Ground.data] none,
 Oper.mk (some 13) (Op.unOp UnOp.not 4 (Operand.tmp 12)) 4 "l01_json.go:206" #[Edge.mk 3 Ground.data] none]
 false)
 (Code.cond (Operand.tmp 13) Code.skip (Code.exit 0)))
 (Code.block 1
 (Code.seq
 (Code.seq
 (Code.region 2
 #[Oper.mk (some 14) (Op.move (Operand.tmp 2)) 1 "l01_json.go:207" #[] none,
 Oper.mk (some 15) (Op.call (Call.mk (Callee.value (Operand.tmp 14)) #[] #[])) 0 "l01_json.go:207" #[Edge.mk 0 Ground.data] none]
 false)
 (Code.seq
 (Code.region 3
 #[Oper.mk (some 16) (Op.move (Operand.tmp 0)) 62 "l01_json.go:207" #[] none,
 Oper.mk (some 17) (Op.move (Operand.tmp 1)) 9 "l01_json.go:207" #[] none,
 Oper.mk (some 18) (Op.call (Call.mk (Callee.value (Operand.func 73)) #[Operand.tmp 16, Operand.tmp 17] #[62, 9])) 4
 "l01_json.go:207" #[Edge.mk 0 Ground.data, Edge.mk 1 Ground.data] none]
 false)
 (Code.cond (Operand.tmp 18) Code.ret Code.skip)))
 (Code.region 4
 #[Oper.mk (some 19) (Op.move (Operand.tmp 0)) 62 "l01_json.go:210" #[] none,
 Oper.mk (some 20)
 (Op.call (Call.mk (Callee.value (Operand.func 97)) #[Operand.tmp 19, Operand.const (Value.string (ByteArray.mk #[(44 : UInt8)]))] #[62, 9])) 0
 "l01_json.go:210" #[Edge.mk 0 Ground.data] none]
 false)))))
 (St.mk
 (mkTm 21
 [(0, V.ptr 0 0), (1, V.str e),
 (2, V.fn 98 [V.ptr 1 0, V.ptr 2 0, V.ptr 3 0, V.ptr 4 0])])
 [rdI t (↑(pos' t (RS.s (Prod.snd y0))) : Int) (RS.bad (Prod.snd y0)) (RS.room (Prod.snd y0)), prB 0, dpB d, mcB 5,
 obB (KM.ks (KM.mk (decL encStr (encs encStr (KM.ks a))) (decL encKV (encs encKV (KM.m a))))), mpB (KM.m (KM.mk (decL encStr (encs encStr (KM.ks a))) (decL encKV (encs encKV (KM.m a)))))]
 [0, 4, 5])
 Ex.ret
 (St.mk (mkTm 21 [])
 [rdI t (↑(pos' t (RS.s (Prod.fst y1))) : Int) (RS.bad (Prod.fst y1)) (RS.room (Prod.fst y1)), prB 0, dpB d, mcB 5, obB (KM.ks (Prod.snd y1)), mpB (KM.m (Prod.snd y1))]
 [0, 4, 5])]
 (T.done
 (Ret.mk (V.tup []) [rdI t (↑(pos' t (RS.s (Prod.fst y1))) : Int) (RS.bad (Prod.fst y1)) (RS.room (Prod.fst y1)), prB 0, dpB d, mcB 5, obB (KM.ks (Prod.snd y1)), mpB (KM.m (Prod.snd y1))]
 [0, 4, 5])))) := (T.force_eq _).symm.trans (by kernel_rfl)
theorem partsObj_ok {t e : List UInt8} {d : Int} {val : RS → J × RS} (ht : t.length ≤ 1000000) (hd : 0 ≤ d ∧ d ≤ 1000) (hV : ValOK t (d + 1) val) (r : RS) (hr : RIn t r) :
    FnOK Tryz.prog fParts [.ptr 0 0, .str e, .fn fObj1 [.ptr 1 0, .ptr 2 0, .ptr 3 0, .ptr 4 0]] [rsB t r, prB 0, dpB d, mcB 5, obB [], mpB []] ⟨.tup [], [rsB t (partsE e (objStep val) r ⟨[], []⟩).1, prB 0, dpB d, mcB 5, obB (partsE e (objStep val) r ⟨[], []⟩).2.ks, mpB (partsE e (objStep val) r ⟨[], []⟩).2.m], [0, 4, 5]⟩ := by
  refine fnOK_TL (E := { P := Tryz.prog, vw := vwA, res := resPo val, ls := lsPo e val }) follows named (partsOT val t e ⟨[], []⟩ d (pos' t r.s : Nat) r.bad r.room) (by simp) ?_
  simp only [WP_cond, T.WP, All, and_true, rs_eta hr.suf]
  rintro y rfl
  have s2 : (r.tk e).2.s <:+ t := (tk_suf r e).trans hr.suf
  have hI2 : RIn t (r.tk e).2 := ⟨s2, by have := hr.lo; have := (tk_suf r e).length_le; show 0 ≤ r.room + _; omega, hr.hi⟩
  have hl := partO_loop (e := e) ht hd hV ((r.tk e).2.s.length + 2) (r.tk e).2 ⟨[], []⟩ s2 (fun _ => ⟨hI2, by have := s2.length_le; simp; omega, Nat.le_refl _⟩) (by omega)
  have e0 : partsE e (objStep val) r ⟨[], []⟩ = bif (r.tk e).1 then ((r.tk e).2, ⟨[], []⟩) else partsL e (objStep val) ((r.tk e).2.s.length + 2) (r.tk e).2 ⟨[], []⟩ := rfl
  rw [e0]
  refine ⟨tk_ok e (by omega) r hr.suf, fun h => ?_, fun h => ?_⟩
  · rw [h]; exact ⟨rfl, rfl, by simp⟩
  · rw [h, rs_eta s2, Int.toNat_natCast, drop_pos s2, layStr.decL, decKV]
    simp only [cond_false]
    generalize partsL e (objStep val) ((r.tk e).2.s.length + 2) (r.tk e).2 ⟨[], []⟩ = y at *
    rintro y rfl
    refine ⟨trivial, fun h1 => ?_, fun h1 => ?_⟩
    · rw [h1] at hl; exact ⟨.loopTo hl, ⟨rfl, rfl, by simp⟩⟩
    · rw [h1] at hl; exact ⟨.loopTo hl, ⟨rfl, rfl, by simp⟩⟩
theorem partsObj_nil {t e : List UInt8} {d : Int} {val : RS → J × RS} (ht : t.length ≤ 1000000) (hd : 0 ≤ d ∧ d ≤ 1000) (hV : ValOK t (d + 1) val) (r : RS) (hr : RIn t r) :
    FnOK Tryz.prog fParts [.ptr 0 0, .str e, .fn fObj1 [.ptr 1 0, .ptr 2 0, .ptr 3 0, .ptr 4 0]] [rsB t r, prB 0, dpB d, mcB 5, nwB 5, mpB []] ⟨.tup [], [rsB t (partsE e (objStep val) r ⟨[], []⟩).1, prB 0, dpB d, mcB 5, obB (partsE e (objStep val) r ⟨[], []⟩).2.ks, mpB (partsE e (objStep val) r ⟨[], []⟩).2.m], [0, 4, 5]⟩ := by
  have p1 : PrepOK Tryz.prog [rsB t r, prB 0, dpB d, mcB 5, nwB 5, mpB []] [rsB t r, prB 0, dpB d, mcB 5, some ([.int .i64 5, .int .i64 0, .str []] ++ .dsl 0 true [] :: [.osl tJ 0 false []], tJ), mpB []] [4] :=
    prepNil (b := 4) (pr := [.int .i64 5, .int .i64 0, .str [], .dsl 0 true []]) (c := .dsl 0 true []) (po := []) (E := tJ) rfl rfl
  have p2 : PrepOK Tryz.prog [rsB t r, prB 0, dpB d, mcB 5, some ([.int .i64 5, .int .i64 0, .str []] ++ .dsl 0 true [] :: [.osl tJ 0 false []], tJ), mpB []] [rsB t r, prB 0, dpB d, mcB 5, obB [], mpB []] [4] :=
    prepNil (b := 4) (pr := [.int .i64 5, .int .i64 0, .str []]) (c := .dsl 0 true []) (po := [.osl tJ 0 false []]) (E := 9) rfl rfl
  have h := (partsObj_ok (e := e) ht hd hV r hr).prepIn p2 (fun b hb h => by
    simp at hb
    rcases hb with rfl | rfl | rfl
    · exact ⟨_, rfl⟩
    · exact ⟨_, rfl⟩
    · exact ⟨_, rfl⟩)
  have h2 := h.prepIn p1 (fun b hb h => by
    have hb' := (mem_lows.1 hb).1
    simp at hb'
    rcases hb' with rfl | rfl | rfl | rfl
    · exact ⟨_, rfl⟩
    · exact ⟨_, rfl⟩
    · exact ⟨_, rfl⟩
    · exact ⟨_, rfl⟩)
  exact h2.more (by simp [mem_lows]) (by simp)
end Go.Proofs.YtfncaghjfgnnhaaGreatDoor

namespace Go.Proofs.YtfncaghjfgnnhaaGreatDoor
open Go.RowKit
set_option maxRecDepth 100000

def ob2 (n : Nat) (x : V) : Option Blk := some ([.int .i64 5, .int .i64 0, .str [], .sl 4 0 n false, x], tJ)
def stOb0 (t : List UInt8) (i0 : Int) (bad : Bool) (room : Int) (K : List (List UInt8)) (m : List (List UInt8 × J)) (i : Int) : St := ⟨mkTm 36 [(4, .ptr 1 0), (5, .ptr 2 0), (6, .ptr 3 0), (18, .sl 4 0 K.length false), (19, .int .i64 K.length), (20, .int .i64 i)], [rdI t i0 bad room, zJ, mcB 5, ob2 K.length (.osl tJ 0 false []), some ([.sld (encs encStr K)], tStr), mpB m], [0]⟩
def stOb1 (t : List UInt8) (i0 : Int) (bad : Bool) (room : Int) (K : List (List UInt8)) (m : List (List UInt8 × J)) (L : List J) (i : Int) : St := ⟨mkTm 36 [(4, .ptr 1 0), (5, .ptr 2 0), (6, .ptr 3 0), (18, .sl 4 0 K.length false), (19, .int .i64 K.length), (20, .int .i64 i)], [rdI t i0 bad room, zJ, mcB 5, ob2 K.length (.sl 6 0 L.length false), some ([.sld (encs encStr K)], tStr), mpB m, some ([.sld (encs encJ L)], tJ)], [0]⟩
def nfOb : Ex → Kp := fun ex => match ex with
  | .normal => { keep := [4, 5, 6, 18, 19, 20], wr := [0] }
  | _ => { keep := [4, 6], wr := [0] }
noncomputable def EOb : Env := { P := Tryz.prog, vw := vwA, res := fun _ _ _ => none, mp := mpKV }
--FOLD vwJ rdI prB dpB rsB mcB obB mpB zJ
set_option maxRecDepth 100000 in
theorem obL0 (t : List UInt8) (i0 : Int) (bad : Bool) (room : Int) (K : List (List UInt8)) (m : List (List UInt8 × J)) (i : Int) : bodyT EOb 1 nfOb (lp Tryz.prog fObj 0) (stOb0 t i0 bad room K m i) =
 bif decide (i < (↑(List.length K) : Int)) then
 T.need [(0 : Int) ≤ i ∧ i < (↑(List.length K) : Int)]
 (T.need [List.take 1 (List.drop (0 + Int.toNat i * 1) (encs encStr K)) = [V.str (List.getD (decL encStr (encs encStr K)) ((0 + Int.toNat i * 1) / 1) [])]]
 (T.bind (MLk.v (MLk.mk (kvGet (List.getD (decL encStr (encs encStr K)) ((0 + Int.toNat i * 1) / 1) []) (decL encKV (encs encKV m))) fun y => (Option.isSome y, V.agg (vwO y)))) fun y0 =>
 T.need
 [(Option.isSome y0 = true →
 KFind (V.str (List.getD (decL encStr (encs encStr K)) ((0 + Int.toNat i * 1) / 1) [])) (encs encKV m) =
 some
 (some
 (V.agg
 [V.int IntKind.i64 (J.kind (Option.getD y0 (J.mk (0 : Int) (0 : Int) [] [] []))), V.int IntKind.i64 (J.n (Option.getD y0 (J.mk (0 : Int) (0 : Int) [] [] []))),
 V.str (J.t (Option.getD y0 (J.mk (0 : Int) (0 : Int) [] [] []))),
 V.dsl (List.length (J.keys (Option.getD y0 (J.mk (0 : Int) (0 : Int) [] [] [])))) (!Option.isSome y0) (encs encStr (J.keys (Option.getD y0 (J.mk (0 : Int) (0 : Int) [] [] [])))),
 V.dsl (List.length (J.items (Option.getD y0 (J.mk (0 : Int) (0 : Int) [] [] [])))) (!Option.isSome y0) (encs encJ (J.items (Option.getD y0 (J.mk (0 : Int) (0 : Int) [] [] []))))]))) ∧
 (Option.isSome y0 = false →
 KFind (V.str (List.getD (decL encStr (encs encStr K)) ((0 + Int.toNat i * 1) / 1) [])) (encs encKV m) = some none ∧
 V.agg
 [V.int IntKind.i64 (J.kind (Option.getD y0 (J.mk (0 : Int) (0 : Int) [] [] []))), V.int IntKind.i64 (J.n (Option.getD y0 (J.mk (0 : Int) (0 : Int) [] [] []))),
 V.str (J.t (Option.getD y0 (J.mk (0 : Int) (0 : Int) [] [] []))),
 V.dsl (List.length (J.keys (Option.getD y0 (J.mk (0 : Int) (0 : Int) [] [] [])))) (!Option.isSome y0) (encs encStr (J.keys (Option.getD y0 (J.mk (0 : Int) (0 : Int) [] [] [])))),
 V.dsl (List.length (J.items (Option.getD y0 (J.mk (0 : Int) (0 : Int) [] [] [])))) (!Option.isSome y0) (encs encJ (J.items (Option.getD y0 (J.mk (0 : Int) (0 : Int) [] [] []))))] =
 V.agg [V.int IntKind.i64 (0 : Int), V.int IntKind.i64 (0 : Int), V.str [], V.dsl 0 true [], V.dsl 0 true []])]
 (T.need [0 = 0, 0 = 0, 1 ≤ 9223372036854775807, 80 ≤ 140737488355328]
 (T.need [(0 : Int) ≤ (0 : Int) ∧ (0 : Int) < (1 : Int)]
 (T.need [0 = 0]
 (T.done
 (Ex.normal,
 St.mk
 (mkTm 36
 [(4, V.ptr 1 0), (5, V.ptr 2 0), (6, V.ptr 3 0), (18, V.sl 4 0 (List.length K) false),
 (19, V.int IntKind.i64 (↑(List.length K) : Int)), (20, V.int IntKind.i64 (IntKind.wrap IntKind.i64 (i + (1 : Int))))])
 [rdI t i0 bad room, zJ, mcB 5,
 some ([V.int IntKind.i64 (5 : Int), V.int IntKind.i64 (0 : Int), V.str [], V.sl 4 0 (List.length K) false, V.sl 6 0 1 false], 25),
 some ([V.sld (encs encStr K)], 9), mpB m, some ([V.sld (vwJ (Option.getD y0 (J.mk (0 : Int) (0 : Int) [] [] [])))], 25)]
 [0])))))))
 else
 T.done
 (Ex.exit 0,
 St.mk (mkTm 36 [(4, V.ptr 1 0), (6, V.ptr 2 0)])
 [rdI t i0 bad room, zJ, some ([V.int IntKind.i64 (5 : Int), V.int IntKind.i64 (0 : Int), V.str [], V.sl 3 0 (List.length K) false, V.osl 25 0 false []], 25),
 some ([V.sld (encs encStr K)], 9)]
 [0]) := by kernel_rfl
set_option maxRecDepth 100000 in
theorem obL1 (t : List UInt8) (i0 : Int) (bad : Bool) (room : Int) (K : List (List UInt8)) (m : List (List UInt8 × J)) (L : List J) (i : Int) : bodyT EOb 1 nfOb (lp Tryz.prog fObj 0) (stOb1 t i0 bad room K m L i) =
 bif decide (i < (↑(List.length K) : Int)) then
 T.need [(0 : Int) ≤ i ∧ i < (↑(List.length K) : Int)]
 (T.need [List.take 1 (List.drop (0 + Int.toNat i * 1) (encs encStr K)) = [V.str (List.getD (decL encStr (encs encStr K)) ((0 + Int.toNat i * 1) / 1) [])]]
 (T.bind (MLk.v (MLk.mk (kvGet (List.getD (decL encStr (encs encStr K)) ((0 + Int.toNat i * 1) / 1) []) (decL encKV (encs encKV m))) fun y => (Option.isSome y, V.agg (vwO y)))) fun y0 =>
 T.need
 [(Option.isSome y0 = true →
 KFind (V.str (List.getD (decL encStr (encs encStr K)) ((0 + Int.toNat i * 1) / 1) [])) (encs encKV m) =
 some
 (some
 (V.agg
 [V.int IntKind.i64 (J.kind (Option.getD y0 (J.mk (0 : Int) (0 : Int) [] [] []))), V.int IntKind.i64 (J.n (Option.getD y0 (J.mk (0 : Int) (0 : Int) [] [] []))),
 V.str (J.t (Option.getD y0 (J.mk (0 : Int) (0 : Int) [] [] []))),
 V.dsl (List.length (J.keys (Option.getD y0 (J.mk (0 : Int) (0 : Int) [] [] [])))) (!Option.isSome y0) (encs encStr (J.keys (Option.getD y0 (J.mk (0 : Int) (0 : Int) [] [] [])))),
 V.dsl (List.length (J.items (Option.getD y0 (J.mk (0 : Int) (0 : Int) [] [] [])))) (!Option.isSome y0) (encs encJ (J.items (Option.getD y0 (J.mk (0 : Int) (0 : Int) [] [] []))))]))) ∧
 (Option.isSome y0 = false →
 KFind (V.str (List.getD (decL encStr (encs encStr K)) ((0 + Int.toNat i * 1) / 1) [])) (encs encKV m) = some none ∧
 V.agg
 [V.int IntKind.i64 (J.kind (Option.getD y0 (J.mk (0 : Int) (0 : Int) [] [] []))), V.int IntKind.i64 (J.n (Option.getD y0 (J.mk (0 : Int) (0 : Int) [] [] []))),
 V.str (J.t (Option.getD y0 (J.mk (0 : Int) (0 : Int) [] [] []))),
 V.dsl (List.length (J.keys (Option.getD y0 (J.mk (0 : Int) (0 : Int) [] [] [])))) (!Option.isSome y0) (encs encStr (J.keys (Option.getD y0 (J.mk (0 : Int) (0 : Int) [] [] [])))),
 V.dsl (List.length (J.items (Option.getD y0 (J.mk (0 : Int) (0 : Int) [] [] [])))) (!Option.isSome y0) (encs encJ (J.items (Option.getD y0 (J.mk (0 : Int) (0 : Int) [] [] []))))] =
 V.agg [V.int IntKind.i64 (0 : Int), V.int IntKind.i64 (0 : Int), V.str [], V.dsl 0 true [], V.dsl 0 true []])]
 (T.need
 [0 = 0, List.length (encs encJ L) = List.length L * 5, List.length L + 1 ≤ 9223372036854775807, (List.length L + 1) * 80 ≤ 140737488355328]
 (T.need [(0 : Int) ≤ (↑(List.length L) : Int) ∧ (↑(List.length L) : Int) < (↑(List.length L + 1) : Int)]
 (T.need [List.length (encs encJ L) = 0 + Int.toNat (↑(List.length L) : Int) * 5]
 (T.done
 (Ex.normal,
 St.mk
 (mkTm 36
 [(4, V.ptr 1 0), (5, V.ptr 2 0), (6, V.ptr 3 0), (18, V.sl 4 0 (List.length K) false),
 (19, V.int IntKind.i64 (↑(List.length K) : Int)), (20, V.int IntKind.i64 (IntKind.wrap IntKind.i64 (i + (1 : Int))))])
 [rdI t i0 bad room, zJ, mcB 5,
 some ([V.int IntKind.i64 (5 : Int), V.int IntKind.i64 (0 : Int), V.str [], V.sl 4 0 (List.length K) false, V.sl 6 0 (List.length L + 1) false], 25),
 some ([V.sld (encs encStr K)], 9), mpB m,
 some
 ([V.sld
 (encs encJ L ++
 [V.int IntKind.i64 (J.kind (Option.getD y0 (J.mk (0 : Int) (0 : Int) [] [] []))), V.int IntKind.i64 (J.n (Option.getD y0 (J.mk (0 : Int) (0 : Int) [] [] []))),
 V.str (J.t (Option.getD y0 (J.mk (0 : Int) (0 : Int) [] [] []))),
 V.dsl (List.length (J.keys (Option.getD y0 (J.mk (0 : Int) (0 : Int) [] [] [])))) false (encs encStr (J.keys (Option.getD y0 (J.mk (0 : Int) (0 : Int) [] [] [])))),
 V.dsl (List.length (J.items (Option.getD y0 (J.mk (0 : Int) (0 : Int) [] [] [])))) false (encs encJ (J.items (Option.getD y0 (J.mk (0 : Int) (0 : Int) [] [] []))))])],
 25)]
 [0])))))))
 else
 T.done
 (Ex.exit 0,
 St.mk (mkTm 36 [(4, V.ptr 1 0), (6, V.ptr 2 0)])
 [rdI t i0 bad room, zJ, some ([V.int IntKind.i64 (5 : Int), V.int IntKind.i64 (0 : Int), V.str [], V.sl 3 0 (List.length K) false, V.sl 4 0 (List.length L) false], 25),
 some ([V.sld (encs encStr K)], 9), some ([V.sld (encs encJ L)], 25)]
 [0]) := by kernel_rfl
def gKV (m : List (List UInt8 × J)) (k : List UInt8) : J := (kvGet k m).getD J.zero
def stObx (t : List UInt8) (i0 : Int) (bad : Bool) (room : Int) (K : List (List UInt8)) (L : List J) : St := ⟨mkTm 36 [(4, .ptr 1 0), (6, .ptr 2 0)], [rdI t i0 bad room, zJ, some ([.int .i64 5, .int .i64 0, .str [], .sl 3 0 K.length false, .sl 4 0 L.length false], tJ), some ([.sld (encs encStr K)], tStr), some ([.sld (encs encJ L)], tJ)], [0]⟩
def stObz (t : List UInt8) (i0 : Int) (bad : Bool) (room : Int) (K : List (List UInt8)) : St := ⟨mkTm 36 [(4, .ptr 1 0), (6, .ptr 2 0)], [rdI t i0 bad room, zJ, some ([.int .i64 5, .int .i64 0, .str [], .sl 3 0 K.length false, .osl tJ 0 false []], tJ), some ([.sld (encs encStr K)], tStr)], [0]⟩
theorem key_at {K : List (List UInt8)} {i : Nat} (h : i < K.length) : List.take 1 (List.drop (0 + i * 1) (encs encStr K)) = [V.str (K.getD i [])] ∧ (0 + i * 1) / 1 = i := by
  have := layStr.at K [] i 1 h rfl
  exact ⟨by simpa [encStr] using this, by omega⟩
theorem ob1_loop (t : List UInt8) (i0 : Int) (bad : Bool) (room : Int) (K : List (List UInt8)) (m : List (List UInt8 × J)) (hK : K.length ≤ 1000000) : ∀ (n : Nat) (L : List J) (i : Nat), i + n = K.length → L.length = i →
    LoopTo Tryz.prog 1 (lp Tryz.prog fObj 0) (stOb1 t i0 bad room K m L i) (.exit 0) (stObx t i0 bad room K (L ++ (K.drop i).map (gKV m)))
  | 0, L, i, h1, h2 => by
    obtain rfl : i = K.length := h1
    refine loopT (E := EOb) follows named (obL1 t i0 bad room K m L _) ?_
    simp only [WP_cond, T.WP, All, decide_eq_true_eq, decide_eq_false_iff_not, and_true]
    refine ⟨fun h => by omega, fun _ => ⟨rfl, ?_⟩⟩
    rw [List.drop_length]
    simp [stObx]
  | n + 1, L, i, h1, h2 => by
    refine loopT (E := EOb) follows named (obL1 t i0 bad room K m L _) ?_
    obtain ⟨q1, q2⟩ := key_at (K := K) (i := i) (by omega)
    simp only [WP_cond, T.WP, All, decide_eq_true_eq, decide_eq_false_iff_not, and_true, layStr.decL, decKV, Int.toNat_natCast, q2, layJ.length, show J.mk 0 0 [] [] [] = J.zero from rfl]
    refine ⟨fun _ => ⟨by omega, q1, ?_⟩, fun h => by omega⟩
    rintro y rfl
    have f1 := kvGet_find (K.getD i []) m
    rw [f1]
    have ih := ob1_loop t i0 bad room K m hK n (L ++ [gKV m (K.getD i [])]) (i + 1) (by omega) (by simp [h2])
    have ed : K.drop i = K.getD i [] :: K.drop (i + 1) := by rw [List.getD_eq_getElem?_getD, List.getElem?_eq_getElem (by omega)]; exact List.drop_eq_getElem_cons (by omega)
    rw [ed, List.map_cons]
    rw [List.append_assoc, List.singleton_append] at ih
    have es : stOb1 t i0 bad room K m (L ++ [gKV m (K.getD i [])]) ((i + 1 : Nat) : Int) = ⟨mkTm 36 [(4, .ptr 1 0), (5, .ptr 2 0), (6, .ptr 3 0), (18, .sl 4 0 K.length false), (19, .int .i64 K.length), (20, .int .i64 (IntKind.wrap .i64 ((i : Int) + 1)))], [rdI t i0 bad room, zJ, mcB 5, ob2 K.length (.sl 6 0 (L.length + 1) false), some ([.sld (encs encStr K)], tStr), mpB m, some ([.sld (flatC (.sld (encs encJ L) :: vwJ (gKV m (K.getD i []))))], tJ)], [0]⟩ := by
      rw [flatC_snoc, wrap_id (by omega)]; simp [stOb1]
    rw [es] at ih
    cases hk : kvGet (K.getD i []) m with
    | none =>
      simp only [Option.isSome_none, Option.map_none, Bool.false_eq_true, false_implies, true_and, forall_const, Option.getD_none, Bool.not_false]
      have eg : gKV m (K.getD i []) = J.zero := by unfold gKV; rw [hk]; rfl
      rw [eg] at ih ⊢
      exact ⟨rfl, ⟨by omega, by omega⟩, by omega, by omega, ih⟩
    | some j =>
      simp only [Option.isSome_some, Option.map_some, false_implies, true_and, and_true, forall_const, Option.getD_some, Bool.not_true, reduceCtorEq]
      have eg : gKV m (K.getD i []) = j := by unfold gKV; rw [hk]; rfl
      rw [eg] at ih ⊢
      exact ⟨rfl, ⟨by omega, by omega⟩, by omega, by omega, ih⟩
theorem ob0_step (t : List UInt8) (i0 : Int) (bad : Bool) (room : Int) (K : List (List UInt8)) (m : List (List UInt8 × J)) (hK : K.length ≤ 1000000) (h0 : 0 < K.length) :
    LoopTo Tryz.prog 1 (lp Tryz.prog fObj 0) (stOb0 t i0 bad room K m 0) (.exit 0) (stObx t i0 bad room K (K.map (gKV m))) := by
  refine loopT (E := EOb) follows named (obL0 t i0 bad room K m 0) ?_
  obtain ⟨q1, q2⟩ := key_at (K := K) (i := 0) h0
  simp only [WP_cond, T.WP, All, decide_eq_true_eq, decide_eq_false_iff_not, and_true, layStr.decL, decKV, show (0 : Int).toNat = 0 from rfl, q2, show J.mk 0 0 [] [] [] = J.zero from rfl]
  refine ⟨fun _ => ⟨by omega, q1, ?_⟩, fun h => by omega⟩
  rintro y rfl
  have f1 := kvGet_find (K.getD 0 []) m
  rw [f1]
  have ih := ob1_loop t i0 bad room K m hK (K.length - 1) [gKV m (K.getD 0 [])] 1 (by omega) rfl
  have ed : K = K.getD 0 [] :: K.drop 1 := by
    cases K with
    | nil => simp at h0
    | cons k K => rfl
  have e2 : [gKV m (K.getD 0 [])] ++ List.map (gKV m) (K.drop 1) = K.map (gKV m) := by
    conv => rhs; rw [ed]
    rfl
  rw [e2] at ih
  have es : stOb1 t i0 bad room K m [gKV m (K.getD 0 [])] ((1 : Nat) : Int) = ⟨mkTm 36 [(4, .ptr 1 0), (5, .ptr 2 0), (6, .ptr 3 0), (18, .sl 4 0 K.length false), (19, .int .i64 K.length), (20, .int .i64 (IntKind.wrap .i64 ((0 : Int) + 1)))], [rdI t i0 bad room, zJ, mcB 5, ob2 K.length (.sl 6 0 1 false), some ([.sld (encs encStr K)], tStr), mpB m, some ([.sld (vwJ (gKV m (K.getD 0 [])))], tJ)], [0]⟩ := by
    rw [wrap_id (by omega), ← encJ_vw]; simp [stOb1, encs]
  rw [es] at ih
  cases hk : kvGet (K.getD 0 []) m with
  | none =>
    simp only [Option.isSome_none, Option.map_none, Bool.false_eq_true, false_implies, true_and, forall_const, Option.getD_none, Bool.not_false]
    have eg : gKV m (K.getD 0 []) = J.zero := by unfold gKV; rw [hk]; rfl
    rw [eg] at ih
    exact ⟨rfl, ⟨by omega, by omega⟩, by omega, ih⟩
  | some j =>
    simp only [Option.isSome_some, Option.map_some, false_implies, true_and, and_true, forall_const, Option.getD_some, Bool.not_true, reduceCtorEq]
    have eg : gKV m (K.getD 0 []) = j := by unfold gKV; rw [hk]; rfl
    rw [eg] at ih
    exact ⟨rfl, ⟨by omega, by omega⟩, by omega, ih⟩
theorem ob0_nil (t : List UInt8) (i0 : Int) (bad : Bool) (room : Int) (K : List (List UInt8)) (m : List (List UInt8 × J)) (h0 : K.length = 0) :
    LoopTo Tryz.prog 1 (lp Tryz.prog fObj 0) (stOb0 t i0 bad room K m 0) (.exit 0) (stObz t i0 bad room K) := by
  refine loopT (E := EOb) follows named (obL0 t i0 bad room K m 0) ?_
  simp only [WP_cond, T.WP, All, decide_eq_true_eq, decide_eq_false_iff_not, and_true]
  exact ⟨fun h => by omega, fun _ => ⟨rfl, rfl⟩⟩

abbrev fObject : Nat := fObj
noncomputable def resObj (val : RS → J × RS) : ResT := fun f vs hp => match vs, hp with
  | [.ptr 0 0, .str e, .fn _ [.ptr 1 0, .ptr 2 0, .ptr 3 0, .ptr 4 0]], [some ([.str t, .int _ i, .bool bad, .int _ room], _), some _, some ([.int _ d], _), some _, some _, some _] =>
    bif Nat.beq f fParts then some ⟨partsE e (objStep val) ⟨t.drop i.toNat, bad, room⟩ ⟨[], []⟩, fun y => ⟨.tup [], [rsB t y.1, prB 0, dpB d, mcB 5, obB y.2.ks, mpB y.2.m], [0, 4, 5]⟩⟩ else none
  | [.sl 0 0 _ _], [some ([.sld cs], _)] => bif Nat.beq f fSort then some ⟨srt (decL encStr cs), fun y => ⟨.tup [], [some ([.sld (encs encStr y)], tStr)], [0]⟩⟩ else none
  | _, _ => none
noncomputable def lsOb : Nat → St → Option LRes := fun id s => match id, s.hp with
  | 0, some ([.str t, .int _ i, .bool bad, .int _ room], _) :: _ :: _ :: _ :: some ([.sld (_ :: mc)], _) :: _ :: _ :: some ([.sld cs], _) :: _ =>
    some ⟨(), fun _ => .two { keep := [4, 5, 6, 18, 19, 20], wr := [0] } (stOb0 t i bad room (decL encStr cs) (decL encKV mc) 0) (Nat.beq (decL encStr cs).length 0) (.exit 0) (stObz t i bad room (decL encStr cs)) (.exit 0) (stObx t i bad room (decL encStr cs) ((decL encStr cs).map (gKV (decL encKV mc))))⟩
  | _, _ => none
set_option maxRecDepth 100000 in
theorem objT (val : RS → J × RS) (t : List UInt8) (d i : Int) (bad : Bool) (room : Int) : fnT { P := Tryz.prog, vw := vwA, res := resObj val, ls := lsOb } 0 fObj [.ptr 0 0, .int .i64 d] [rdI t i bad room] =
 T.bind (partsE [(125 : UInt8)] (objStep val) (RS.mk (List.drop (Int.toNat i) t) bad room) (KM.mk [] [])) fun y0 =>
 T.need
 [FnOK (Env.P (Env.mk Tryz.prog vwA (resObj val) lsOb [] [] none (MapE.mk (fun _ _ _ => none) fun _ _ _ _ => none) fun _ _ _ _ _ => none)) 75
 [V.ptr 0 0, V.str [125], V.fn 98 [V.ptr 1 0, V.ptr 2 0, V.ptr 3 0, V.ptr 4 0]]
 [rdI t i bad room, prB 0, dpB d, mcB 5, some ([V.int IntKind.i64 (5 : Int), V.int IntKind.i64 (0 : Int), V.str [], V.dsl 0 true [], V.dsl 0 true []], 25),
 some ([V.sld [V.slo []]], 4294967291)]
 (Ret.mk (V.tup []) [rdI t (↑(pos' t (RS.s (Prod.fst y0))) : Int) (RS.bad (Prod.fst y0)) (RS.room (Prod.fst y0)), prB 0, dpB d, mcB 5, obB (KM.ks (Prod.snd y0)), mpB (KM.m (Prod.snd y0))]
 [0, 4, 5])]
 (T.bind (srt (decL encStr (encs encStr (KM.ks (Prod.snd y0))))) fun y1 =>
 T.need
 [FnOK (Env.P (Env.mk Tryz.prog vwA (resObj val) lsOb [] [] none (MapE.mk (fun _ _ _ => none) fun _ _ _ _ => none) fun _ _ _ _ _ => none)) 99
 [V.sl 0 0 (List.length (KM.ks (Prod.snd y0))) false] [some ([V.sld (encs encStr (KM.ks (Prod.snd y0)))], 9)]
 (Ret.mk (V.tup []) [some ([V.sld (encs encStr y1)], 9)] [0])]
 (T.bind PUnit.unit fun _ =>
 T.need
 [St.mk
 (mkTm 36
 [(4, V.ptr 1 0), (5, V.ptr 2 0), (6, V.ptr 3 0),
 (18, V.sl 4 0 (List.length (KM.ks (Prod.snd y0))) false), (19, V.int IntKind.i64 (↑(List.length (KM.ks (Prod.snd y0))) : Int)),
 (20, V.int IntKind.i64 (0 : Int))])
 [rdI t (↑(pos' t (RS.s (Prod.fst y0))) : Int) (RS.bad (Prod.fst y0)) (RS.room (Prod.fst y0)), zJ, mcB 5,
 some ([V.int IntKind.i64 (5 : Int), V.int IntKind.i64 (0 : Int), V.str [], V.sl 4 0 (List.length (KM.ks (Prod.snd y0))) false, V.osl 25 0 false []], 25),
 some ([V.sld (encs encStr y1)], 9), mpB (KM.m (Prod.snd y0))]
 [0] =
 St.mk
 (mkTm 36
 [(4, V.ptr 1 0), (5, V.ptr 2 0), (6, V.ptr 3 0),
 (18, V.sl 4 0 (List.length (decL encStr (encs encStr y1))) false), (19, V.int IntKind.i64 (↑(List.length (decL encStr (encs encStr y1))) : Int)),
 (20, V.int IntKind.i64 (0 : Int))])
 [rdI t (↑(pos' t (RS.s (Prod.fst y0))) : Int) (RS.bad (Prod.fst y0)) (RS.room (Prod.fst y0)), zJ, mcB 5,
 some
 ([V.int IntKind.i64 (5 : Int), V.int IntKind.i64 (0 : Int), V.str [], V.sl 4 0 (List.length (decL encStr (encs encStr y1))) false, V.osl 25 0 false []], 25),
 some ([V.sld (encs encStr (decL encStr (encs encStr y1)))], 9), mpB (decL encKV (encs encKV (KM.m (Prod.snd y0))))]
 [0]]
 (bif Nat.beq (List.length (decL encStr (encs encStr y1))) 0 then
 T.need
 [SoundC (Env.P (Env.mk Tryz.prog vwA (resObj val) lsOb [] [] none (MapE.mk (fun _ _ _ => none) fun _ _ _ _ => none) fun _ _ _ _ _ => none)) 1
 (Code.loop
 (Code.seq (Code.region 6 #[Oper.mk (some 21) (Op.binOp BinOp.lss 3 (Operand.tmp 20) (Operand.tmp 19) 3) 0 "l01_json.go:230" #[] none] false)
 (Code.seq (Code.cond (Operand.tmp 21) Code.skip (Code.exit 0))
 (Code.seq
 (Code.block 1
 (Code.seq
 (Code.region 7
 #[Oper.mk (some 22) (Op.indexAddr 22 (Operand.tmp 18) (Operand.tmp 20)) 0 "l01_json.go:230" #[] none,
 Oper.mk (some 23) (Op.load 9 (Operand.tmp 22)) 9 "l01_json.go:230" #[Edge.mk 0 Ground.data] none,
 Oper.mk (some 8) (Op.assign (Operand.tmp 23)) 9 "l01_json.go:230"
 #[Edge.mk 1 Ground.data, Edge.mk 0 Ground.phase, Edge.mk 1 Ground.phase] none]
 false)
 (Code.region 8
 #[Oper.mk (some 24) (Op.fieldAddr 25 (Operand.tmp 6) 4) 0 "l01_json.go:231" #[] none,
 Oper.mk (some 25) (Op.load 23 (Operand.tmp 24)) 23 "l01_json.go:231" #[Edge.mk 0 Ground.data] none,
 Oper.mk (some 26) (Op.load 99 (Operand.tmp 5)) 99 "l01_json.go:231" #[] none,
 Oper.mk (some 27) (Op.move (Operand.tmp 8)) 9 "l01_json.go:231" #[] none,
 Oper.mk (some 28) (Op.lookup 99 (Operand.tmp 26) (Operand.tmp 27) false) 25 "l01_json.go:231"
 #[Edge.mk 2 Ground.data, Edge.mk 3 Ground.data] none,
 Oper.mk (some 29) (Op.call (Call.mk (Callee.builtin Builtin.len) #[Operand.tmp 25] #[23])) 3 "l01_json.go:231" #[Edge.mk 1 Ground.data] none,
 Oper.mk (some 30)
 (Op.buildSlice 23 1
 #[(0,
 Operand.const
 (Value.agg
 #[Value.int IntKind.i64 (0 : Int), Value.int IntKind.i64 (0 : Int), Value.string (ByteArray.mk #[]), Value.slice none 0 0,
 Value.slice none 0 0]))])
 23 "l01_json.go:231" #[] none,
 Oper.mk (some 31) (Op.call (Call.mk (Callee.builtin Builtin.append) #[Operand.tmp 25, Operand.tmp 30] #[23, 23])) 23 "l01_json.go:231"
 #[Edge.mk 1 Ground.data, Edge.mk 6 Ground.data, Edge.mk 0 Ground.phase, Edge.mk 1 Ground.phase, Edge.mk 2 Ground.phase,
 Edge.mk 3 Ground.phase, Edge.mk 4 Ground.phase, Edge.mk 5 Ground.phase, Edge.mk 6 Ground.phase]
 none,
 Oper.mk (some 32) (Op.indexAddr 23 (Operand.tmp 31) (Operand.tmp 29)) 0 "l01_json.go:231"
 #[Edge.mk 7 Ground.data, Edge.mk 5 Ground.data, Edge.mk 0 Ground.phase, Edge.mk 1 Ground.phase, Edge.mk 2 Ground.phase,
 Edge.mk 3 Ground.phase, Edge.mk 4 Ground.phase, Edge.mk 5 Ground.phase, Edge.mk 6 Ground.phase, Edge.mk 7 Ground.phase,
 Edge.mk 11 (Ground.gcOnly Departure.appendInPlace)]
 none,
 Oper.mk none (Op.store 25 (Operand.tmp 32) (Operand.tmp 28)) 0 "l01_json.go:231"
 #[Edge.mk 8 Ground.data, Edge.mk 4 Ground.data, Edge.mk 7 Ground.chain, Edge.mk 0 Ground.phase, Edge.mk 1 Ground.phase,
 Edge.mk 2 Ground.phase, Edge.mk 3 Ground.phase, Edge.mk 4 Ground.phase, Edge.mk 5 Ground.phase, Edge.mk 6 Ground.phase,
 Edge.mk 7 Ground.phase, Edge.mk 11 (Ground.gcOnly Departure.appendInPlace)]
 none,
 Oper.mk (some 33) (Op.fieldAddr 25 (Operand.tmp 6) 4) 0 "l01_json.go:231"
 #[Edge.mk 0 Ground.phase, Edge.mk 1 Ground.phase, Edge.mk 2 Ground.phase, Edge.mk 3 Ground.phase, Edge.mk 4 Ground.phase,
 Edge.mk 5 Ground.phase, Edge.mk 6 Ground.phase, Edge.mk 7 Ground.phase, Edge.mk 8 (Ground.textOnly Departure.appendInPlace),
 Edge.mk 9 (Ground.textOnly Departure.appendInPlace)]
 none,
 Oper.mk none (Op.store 23 (Operand.tmp 33) (Operand.tmp 31)) 0 "l01_json.go:231"
 #[Edge.mk 10 Ground.data, Edge.mk 7 Ground.data, Edge.mk 7 Ground.chain, Edge.mk 9 (Ground.textOnly Departure.appendInPlace),
 Edge.mk 0 Ground.phase, Edge.mk 1 Ground.phase, Edge.mk 2 Ground.phase, Edge.mk 3 Ground.phase, Edge.mk 4 Ground.phase,
 Edge.mk 5 Ground.phase, Edge.mk 6 Ground.phase, Edge.mk 7 Ground.phase, Edge.mk 8 (Ground.textOnly Departure.appendInPlace),
 Edge.mk 9 (Ground.textOnly Departure.appendInPlace)]
 none]
 true)))
 (Code.region 9
 #[Oper.mk (some 34) (Op.binOp BinOp.add 3 (Operand.tmp 20) (Operand.const (Value.int IntKind.i64 (1 : Int))) 3) 3 "l01_json.go:230" #[] none,
 Oper.mk (some 20) (Op.move (Operand.tmp 34)) 3 "l01_json.go:230" #[Edge.mk 0 Ground.data] none]
 false)))))
 (St.mk
 (mkTm 36
 [(4, V.ptr 1 0), (5, V.ptr 2 0), (6, V.ptr 3 0),
 (18, V.sl 4 0 (List.length (decL encStr (encs encStr y1))) false), (19, V.int IntKind.i64 (↑(List.length (decL encStr (encs encStr y1))) : Int)),
 (20, V.int IntKind.i64 (0 : Int))])
 [rdI t (↑(pos' t (RS.s (Prod.fst y0))) : Int) (RS.bad (Prod.fst y0)) (RS.room (Prod.fst y0)), zJ, mcB 5,
 some
 ([V.int IntKind.i64 (5 : Int), V.int IntKind.i64 (0 : Int), V.str [], V.sl 4 0 (List.length (decL encStr (encs encStr y1))) false, V.osl 25 0 false []],
 25),
 some ([V.sld (encs encStr (decL encStr (encs encStr y1)))], 9), mpB (decL encKV (encs encKV (KM.m (Prod.snd y0))))]
 [0])
 (Ex.exit 0)
 (St.mk (mkTm 36 [(4, V.ptr 1 0), (6, V.ptr 2 0)])
 [rdI t (↑(pos' t (RS.s (Prod.fst y0))) : Int) (RS.bad (Prod.fst y0)) (RS.room (Prod.fst y0)), zJ,
 some
 ([V.int IntKind.i64 (5 : Int), V.int IntKind.i64 (0 : Int), V.str [], V.sl 3 0 (List.length (decL encStr (encs encStr y1))) false, V.osl 25 0 false []],
 25),
 some ([V.sld (encs encStr (decL encStr (encs encStr y1)))], 9)]
 [0])]
 (T.done
 (Ret.mk
 (V.agg
 [V.int IntKind.i64 (5 : Int), V.int IntKind.i64 (0 : Int), V.str [], V.dsl (List.length (decL encStr (encs encStr y1))) false (encs encStr (decL encStr (encs encStr y1))), V.dsl 0 false []])
 [rdI t (↑(pos' t (RS.s (Prod.fst y0))) : Int) (RS.bad (Prod.fst y0)) (RS.room (Prod.fst y0))] [0]))
 else
 T.need
 [SoundC (Env.P (Env.mk Tryz.prog vwA (resObj val) lsOb [] [] none (MapE.mk (fun _ _ _ => none) fun _ _ _ _ => none) fun _ _ _ _ _ => none)) 1
 (Code.loop
 (Code.seq (Code.region 6 #[Oper.mk (some 21) (Op.binOp BinOp.lss 3 (Operand.tmp 20) (Operand.tmp 19) 3) 0 "l01_json.go:230" #[] none] false)
 (Code.seq (Code.cond (Operand.tmp 21) Code.skip (Code.exit 0))
 (Code.seq
 (Code.block 1
 (Code.seq
 (Code.region 7
 #[Oper.mk (some 22) (Op.indexAddr 22 (Operand.tmp 18) (Operand.tmp 20)) 0 "l01_json.go:230" #[] none,
 Oper.mk (some 23) (Op.load 9 (Operand.tmp 22)) 9 "l01_json.go:230" #[Edge.mk 0 Ground.data] none,
 Oper.mk (some 8) (Op.assign (Operand.tmp 23)) 9 "l01_json.go:230"
 #[Edge.mk 1 Ground.data, Edge.mk 0 Ground.phase, Edge.mk 1 Ground.phase] none]
 false)
 (Code.region 8
 #[Oper.mk (some 24) (Op.fieldAddr 25 (Operand.tmp 6) 4) 0 "l01_json.go:231" #[] none,
 Oper.mk (some 25) (Op.load 23 (Operand.tmp 24)) 23 "l01_json.go:231" #[Edge.mk 0 Ground.data] none,
 Oper.mk (some 26) (Op.load 99 (Operand.tmp 5)) 99 "l01_json.go:231" #[] none,
 Oper.mk (some 27) (Op.move (Operand.tmp 8)) 9 "l01_json.go:231" #[] none,
 Oper.mk (some 28) (Op.lookup 99 (Operand.tmp 26) (Operand.tmp 27) false) 25 "l01_json.go:231"
 #[Edge.mk 2 Ground.data, Edge.mk 3 Ground.data] none,
 Oper.mk (some 29) (Op.call (Call.mk (Callee.builtin Builtin.len) #[Operand.tmp 25] #[23])) 3 "l01_json.go:231" #[Edge.mk 1 Ground.data] none,
 Oper.mk (some 30)
 (Op.buildSlice 23 1
 #[(0,
 Operand.const
 (Value.agg
 #[Value.int IntKind.i64 (0 : Int), Value.int IntKind.i64 (0 : Int), Value.string (ByteArray.mk #[]), Value.slice none 0 0,
 Value.slice none 0 0]))])
 23 "l01_json.go:231" #[] none,
 Oper.mk (some 31) (Op.call (Call.mk (Callee.builtin Builtin.append) #[Operand.tmp 25, Operand.tmp 30] #[23, 23])) 23 "l01_json.go:231"
 #[Edge.mk 1 Ground.data, Edge.mk 6 Ground.data, Edge.mk 0 Ground.phase, Edge.mk 1 Ground.phase, Edge.mk 2 Ground.phase,
 Edge.mk 3 Ground.phase, Edge.mk 4 Ground.phase, Edge.mk 5 Ground.phase, Edge.mk 6 Ground.phase]
 none,
 Oper.mk (some 32) (Op.indexAddr 23 (Operand.tmp 31) (Operand.tmp 29)) 0 "l01_json.go:231"
 #[Edge.mk 7 Ground.data, Edge.mk 5 Ground.data, Edge.mk 0 Ground.phase, Edge.mk 1 Ground.phase, Edge.mk 2 Ground.phase,
 Edge.mk 3 Ground.phase, Edge.mk 4 Ground.phase, Edge.mk 5 Ground.phase, Edge.mk 6 Ground.phase, Edge.mk 7 Ground.phase,
 Edge.mk 11 (Ground.gcOnly Departure.appendInPlace)]
 none,
 Oper.mk none (Op.store 25 (Operand.tmp 32) (Operand.tmp 28)) 0 "l01_json.go:231"
 #[Edge.mk 8 Ground.data, Edge.mk 4 Ground.data, Edge.mk 7 Ground.chain, Edge.mk 0 Ground.phase, Edge.mk 1 Ground.phase,
 Edge.mk 2 Ground.phase, Edge.mk 3 Ground.phase, Edge.mk 4 Ground.phase, Edge.mk 5 Ground.phase, Edge.mk 6 Ground.phase,
 Edge.mk 7 Ground.phase, Edge.mk 11 (Ground.gcOnly Departure.appendInPlace)]
 none,
 Oper.mk (some 33) (Op.fieldAddr 25 (Operand.tmp 6) 4) 0 "l01_json.go:231"
 #[Edge.mk 0 Ground.phase, Edge.mk 1 Ground.phase, Edge.mk 2 Ground.phase, Edge.mk 3 Ground.phase, Edge.mk 4 Ground.phase,
 Edge.mk 5 Ground.phase, Edge.mk 6 Ground.phase, Edge.mk 7 Ground.phase, Edge.mk 8 (Ground.textOnly Departure.appendInPlace),
 Edge.mk 9 (Ground.textOnly Departure.appendInPlace)]
 none,
 Oper.mk none (Op.store 23 (Operand.tmp 33) (Operand.tmp 31)) 0 "l01_json.go:231"
 #[Edge.mk 10 Ground.data, Edge.mk 7 Ground.data, Edge.mk 7 Ground.chain, Edge.mk 9 (Ground.textOnly Departure.appendInPlace),
 Edge.mk 0 Ground.phase, Edge.mk 1 Ground.phase, Edge.mk 2 Ground.phase, Edge.mk 3 Ground.phase, Edge.mk 4 Ground.phase,
 Edge.mk 5 Ground.phase, Edge.mk 6 Ground.phase, Edge.mk 7 Ground.phase, Edge.mk 8 (Ground.textOnly Departure.appendInPlace),
 Edge.mk 9 (Ground.textOnly Departure.appendInPlace)]
 none]
 true)))
 (Code.region 9
 #[Oper.mk (some 34) (Op.binOp BinOp.add 3 (Operand.tmp 20) (Operand.const (Value.int IntKind.i64 (1 : Int))) 3) 3 "l01_json.go:230" #[] none,
 Oper.mk (some 20) (Op.move (Operand.tmp 34)) 3 "l01_json.go:230" #[Edge.mk 0 Ground.data] none]
 false)))))
 (St.mk
 (mkTm 36
 [(4, V.ptr 1 0), (5, V.ptr 2 0), (6, V.ptr 3 0),
 (18, V.sl 4 0 (List.length (decL encStr (encs encStr y1))) false), (19, V.int IntKind.i64 (↑(List.length (decL encStr (encs encStr y1))) : Int)),
 (20, V.int IntKind.i64 (0 : Int))])
 [rdI t (↑(pos' t (RS.s (Prod.fst y0))) : Int) (RS.bad (Prod.fst y0)) (RS.room (Prod.fst y0)), zJ, mcB 5,
 some
 ([V.int IntKind.i64 (5 : Int), V.int IntKind.i64 (0 : Int), V.str [], V.sl 4 0 (List.length (decL encStr (encs encStr y1))) false, V.osl 25 0 false []],
 25),
 some ([V.sld (encs encStr (decL encStr (encs encStr y1)))], 9), mpB (decL encKV (encs encKV (KM.m (Prod.snd y0))))]
 [0])
 (Ex.exit 0)
 (St.mk (mkTm 36 [(4, V.ptr 1 0), (6, V.ptr 2 0)])
 [rdI t (↑(pos' t (RS.s (Prod.fst y0))) : Int) (RS.bad (Prod.fst y0)) (RS.room (Prod.fst y0)), zJ,
 some
 ([V.int IntKind.i64 (5 : Int), V.int IntKind.i64 (0 : Int), V.str [], V.sl 3 0 (List.length (decL encStr (encs encStr y1))) false,
 V.sl 4 0 (List.length (List.map (gKV (decL encKV (encs encKV (KM.m (Prod.snd y0))))) (decL encStr (encs encStr y1)))) false],
 25),
 some ([V.sld (encs encStr (decL encStr (encs encStr y1)))], 9),
 some ([V.sld (encs encJ (List.map (gKV (decL encKV (encs encKV (KM.m (Prod.snd y0))))) (decL encStr (encs encStr y1))))], 25)]
 [0])]
 (T.done
 (Ret.mk
 (V.agg
 [V.int IntKind.i64 (5 : Int), V.int IntKind.i64 (0 : Int), V.str [], V.dsl (List.length (decL encStr (encs encStr y1))) false (encs encStr (decL encStr (encs encStr y1))),
 V.dsl (List.length (List.map (gKV (decL encKV (encs encKV (KM.m (Prod.snd y0))))) (decL encStr (encs encStr y1)))) false
 (encs encJ (List.map (gKV (decL encKV (encs encKV (KM.m (Prod.snd y0))))) (decL encStr (encs encStr y1))))])
 [rdI t (↑(pos' t (RS.s (Prod.fst y0))) : Int) (RS.bad (Prod.fst y0)) (RS.room (Prod.fst y0))] [0]))))) := (T.force_eq _).symm.trans (by kernel_rfl)
theorem partsL_size {α : Type} {e : List UInt8} {f : RS → α → RS × α} (z : α → Nat) (hf : ∀ r a, ROut r (f r a).1) (hz : ∀ r a, z (f r a).2 ≤ z a + 1) : ∀ (n : Nat) (r : RS) (a : α), z (partsL e f n r a).2 ≤ z a + r.s.length + 1
  | 0, r, a => by show z a ≤ _; omega
  | n + 1, ⟨s, true, room⟩, a => by rw [partsL_bad]; show z a ≤ _; omega
  | n + 1, ⟨s, false, room⟩, a => by
    rw [partsL_on _ _ _ _ rfl]
    have h1 := hf ⟨s, false, room⟩ a
    have h2 := hz ⟨s, false, room⟩ a
    have l1 := h1.suf.length_le
    have ih := partsL_size (e := e) z hf hz n (((f ⟨s, false, room⟩ a).1.tk e).2.want [44]) (f ⟨s, false, room⟩ a).2
    generalize f ⟨s, false, room⟩ a = y at *
    cases (y.1.tk e).1 with
    | true => show z y.2 ≤ _; omega
    | false =>
      simp only [cond_false]
      have l2 := (tk_suf y.1 e).length_le
      rcases want_on (y.1.tk e).2 [44] with h4 | ⟨h4, _⟩
      · generalize hr : (y.1.tk e).2.want [44] = r3 at *
        obtain ⟨s3, b3, m3⟩ := r3
        simp only at h4
        subst h4
        rw [partsL_bad]; show z y.2 ≤ _; omega
      · simp only [List.length_singleton] at h4 l1 ⊢
        omega
theorem partsE_size {α : Type} {e : List UInt8} {f : RS → α → RS × α} (z : α → Nat) (hf : ∀ r a, ROut r (f r a).1) (hz : ∀ r a, z (f r a).2 ≤ z a + 1) (r : RS) (a : α) : z (partsE e f r a).2 ≤ z a + r.s.length + 1 := by
  unfold partsE
  have h := (tk_suf r e).length_le
  cases (r.tk e).1 with
  | true => show z a ≤ _; omega
  | false =>
    simp only [cond_false]
    have := partsL_size (e := e) z hf hz ((r.tk e).2.s.length + 2) (r.tk e).2 a
    omega
theorem object_ok {t : List UInt8} {d : Int} {val : RS → J × RS} (ht : t.length ≤ 500000) (hd : 0 ≤ d ∧ d ≤ 1000) (hV : ValOK t (d + 1) val) (r : RS) (hr : RIn t r) :
    FnOK Tryz.prog fObj [.ptr 0 0, .int .i64 d] [rsB t r] ⟨.agg (vwJ (objJ (partsE [125] (objStep val) r ⟨[], []⟩).2)), [rsB t (partsE [125] (objStep val) r ⟨[], []⟩).1], [0]⟩ := by
  refine fnOK_TL (E := { P := Tryz.prog, vw := vwA, res := resObj val, ls := lsOb }) follows named (objT val t d (pos' t r.s : Nat) r.bad r.room) (by simp) ?_
  simp only [WP_cond, T.WP, All, and_true, rs_eta hr.suf, layStr.decL, decKV]
  have hks := partsE_size (e := [125]) (fun a : KM => a.ks.length) (fun r a => objStep_out hV.out r a) (fun r a => by rw [objStep_len]; omega) r ⟨[], []⟩
  have hp := partsObj_nil (e := [125]) (by omega) hd hV r hr
  have hsuf := hr.suf.length_le
  generalize partsE [125] (objStep val) r ⟨[], []⟩ = y0 at *
  simp only [List.length_nil, Nat.zero_add] at hks
  intro y0 hy
  subst hy
  refine ⟨hp, ?_⟩
  rintro y1 rfl
  have hsl : (srt y0.2.ks).length = y0.2.ks.length := by simp [srt]
  refine ⟨sort_ok _ _ (by omega), ?_⟩
  rintro - -
  refine ⟨by rw [hsl], fun h => ?_, fun h => ?_⟩
  · have h : (srt y0.2.ks).length = 0 := Nat.eq_of_beq_eq_true h
    refine ⟨.loopTo (ob0_nil _ _ _ _ _ _ h), ?_, rfl, by simp⟩
    have e : srt y0.2.ks = [] := List.eq_nil_of_length_eq_zero h
    simp [objJ, e, vwJ, J.kind, J.n, J.t, J.keys, J.items, encs]
  · have h0 : 0 < (srt y0.2.ks).length := by
      rcases Nat.eq_zero_or_pos (srt y0.2.ks).length with h1 | h1
      · rw [h1] at h; cases h
      · exact h1
    exact ⟨.loopTo (ob0_step _ _ _ _ _ _ (by omega) h0), rfl, rfl, by simp⟩
end Go.Proofs.YtfncaghjfgnnhaaGreatDoor

namespace Go.Proofs.YtfncaghjfgnnhaaGreatDoor
open Go.RowKit
set_option maxRecDepth 100000

noncomputable def resVal (val : RS → J × RS) : ResT := fun f vs hp => match vs, hp with
  | [.ptr 0 0], [some ([.str t, .int _ i, .bool bad, .int _ room], _)] =>
    bif Nat.beq f fSkip then some ⟨skp (t.drop i.toNat), fun y => ⟨.tup [], [rsB t ⟨y, bad, room⟩], [0]⟩⟩
    else bif Nat.beq f fText then some ⟨txtE bad (t.drop i.toNat), fun y => ⟨.str y.1, [rsB t ⟨y.2.2, y.2.1, room⟩], [0]⟩⟩
    else bif Nat.beq f fNumber then some ⟨(t.drop i.toNat, bad), fun y => ⟨.agg (vwJ (nmJ y.1)), [rsB t ⟨y.1.dropWhile nmC, nmB y.2 y.1, room⟩], [0]⟩⟩
    else none
  | [.ptr 0 0, .int _ _], [some ([.str t, .int _ i, .bool bad, .int _ room], _)] => bif Nat.beq f fObj then some ⟨partsE [125] (objStep val) ⟨t.drop i.toNat, bad, room⟩ ⟨[], []⟩, fun y => ⟨.agg (vwJ (objJ y.2)), [rsB t y.1], [0]⟩⟩ else none
  | [.ptr 0 0, .str e, .fn _ [.ptr 1 0, .ptr 2 0, .ptr 3 0]], [some ([.str t, .int _ i, .bool bad, .int _ room], _), some _, some _, some ([.int _ d], _)] =>
    bif Nat.beq f fParts then some ⟨partsE e (listStep val) ⟨t.drop i.toNat, bad, room⟩ [], fun y => ⟨.tup [], [rsB t y.1, lsB y.2, prB 0, dpB d], [0, 1]⟩⟩ else none
  | vs, hp => resRd f vs hp
noncomputable def EVal (val : RS → J × RS) : Env := { P := Tryz.prog, vw := vwA, res := resVal val }
--FOLD vwJ rdI prB dpB rsB
set_option maxRecDepth 100000 in
theorem valueT (val : RS → J × RS) (t : List UInt8) (d i : Int) (bad : Bool) (room : Int) : fnT (EVal val) 0 fVal [.ptr 0 0, .int .i64 d] [rdI t i bad room] =
 bif decide (IntKind.wrap IntKind.i64 (room - (1 : Int)) < (0 : Int)) then
 T.bind (skp (List.drop (Int.toNat i) t)) fun y0 =>
 T.need
 [FnOK (Env.P (EVal val)) 48 [V.ptr 0 0] [rdI t i true (IntKind.wrap IntKind.i64 (room - (1 : Int)))]
 (Ret.mk (V.tup []) [rdI t (↑(pos' t (RS.s (RS.mk y0 true (IntKind.wrap IntKind.i64 (room - (1 : Int)))))) : Int) true (RS.room (RS.mk y0 true (IntKind.wrap IntKind.i64 (room - (1 : Int)))))] [0])]
 (T.done
 (Ret.mk (V.agg [V.int IntKind.i64 (0 : Int), V.int IntKind.i64 (0 : Int), V.str [], V.dsl 0 false [], V.dsl 0 false []])
 [rdI t (↑(pos' t (RS.s (RS.mk y0 true (IntKind.wrap IntKind.i64 (room - (1 : Int)))))) : Int) true (RS.room (RS.mk y0 true (IntKind.wrap IntKind.i64 (room - (1 : Int)))))] [0]))
 else
 bif decide (d ≥ (12 : Int)) then
 T.bind (skp (List.drop (Int.toNat i) t)) fun y1 =>
 T.need
 [FnOK (Env.P (EVal val)) 48 [V.ptr 0 0] [rdI t i true (IntKind.wrap IntKind.i64 (room - (1 : Int)))]
 (Ret.mk (V.tup []) [rdI t (↑(pos' t (RS.s (RS.mk y1 true (IntKind.wrap IntKind.i64 (room - (1 : Int)))))) : Int) true (RS.room (RS.mk y1 true (IntKind.wrap IntKind.i64 (room - (1 : Int)))))] [0])]
 (T.done
 (Ret.mk (V.agg [V.int IntKind.i64 (0 : Int), V.int IntKind.i64 (0 : Int), V.str [], V.dsl 0 false [], V.dsl 0 false []])
 [rdI t (↑(pos' t (RS.s (RS.mk y1 true (IntKind.wrap IntKind.i64 (room - (1 : Int)))))) : Int) true (RS.room (RS.mk y1 true (IntKind.wrap IntKind.i64 (room - (1 : Int)))))] [0]))
 else
 T.bind (skp (List.drop (Int.toNat i) t)) fun y2 =>
 T.need
 [FnOK (Env.P (EVal val)) 48 [V.ptr 0 0] [rdI t i bad (IntKind.wrap IntKind.i64 (room - (1 : Int)))]
 (Ret.mk (V.tup [])
 [rdI t (↑(pos' t (RS.s (RS.mk y2 bad (IntKind.wrap IntKind.i64 (room - (1 : Int)))))) : Int) (RS.bad (RS.mk y2 bad (IntKind.wrap IntKind.i64 (room - (1 : Int)))))
 (RS.room (RS.mk y2 bad (IntKind.wrap IntKind.i64 (room - (1 : Int)))))]
 [0])]
 (bif RS.bad (RS.mk y2 bad (IntKind.wrap IntKind.i64 (room - (1 : Int)))) then
 T.done
 (Ret.mk (V.agg [V.int IntKind.i64 (0 : Int), V.int IntKind.i64 (0 : Int), V.str [], V.dsl 0 false [], V.dsl 0 false []])
 [rdI t (↑(pos' t (RS.s (RS.mk y2 bad (IntKind.wrap IntKind.i64 (room - (1 : Int)))))) : Int) true (RS.room (RS.mk y2 bad (IntKind.wrap IntKind.i64 (room - (1 : Int)))))] [0])
 else
 bif (↑(pos' t (RS.s (RS.mk y2 bad (IntKind.wrap IntKind.i64 (room - (1 : Int)))))) : Int) == (↑(List.length t) : Int) then
 T.done
 (Ret.mk (V.agg [V.int IntKind.i64 (0 : Int), V.int IntKind.i64 (0 : Int), V.str [], V.dsl 0 false [], V.dsl 0 false []])
 [rdI t (↑(pos' t (RS.s (RS.mk y2 bad (IntKind.wrap IntKind.i64 (room - (1 : Int)))))) : Int) true (RS.room (RS.mk y2 bad (IntKind.wrap IntKind.i64 (room - (1 : Int)))))] [0])
 else
 T.bind
 (RS.tk
 (RS.mk (List.drop (Int.toNat (↑(pos' t (RS.s (RS.mk y2 bad (IntKind.wrap IntKind.i64 (room - (1 : Int)))))) : Int)) t) (RS.bad (RS.mk y2 bad (IntKind.wrap IntKind.i64 (room - (1 : Int)))))
 (RS.room (RS.mk y2 bad (IntKind.wrap IntKind.i64 (room - (1 : Int))))))
 [(110 : UInt8), (117 : UInt8), (108 : UInt8), (108 : UInt8)])
 fun y3 =>
 T.need
 [FnOK (Env.P (EVal val)) 73 [V.ptr 0 0, V.str [110, 117, 108, 108]]
 [rdI t (↑(pos' t (RS.s (RS.mk y2 bad (IntKind.wrap IntKind.i64 (room - (1 : Int)))))) : Int) (RS.bad (RS.mk y2 bad (IntKind.wrap IntKind.i64 (room - (1 : Int)))))
 (RS.room (RS.mk y2 bad (IntKind.wrap IntKind.i64 (room - (1 : Int)))))]
 (Ret.mk (V.bool (Prod.fst y3)) [rdI t (↑(pos' t (RS.s (Prod.snd y3))) : Int) (RS.bad (Prod.snd y3)) (RS.room (Prod.snd y3))] [0])]
 (bif Prod.fst y3 then
 T.done
 (Ret.mk (V.agg [V.int IntKind.i64 (0 : Int), V.int IntKind.i64 (0 : Int), V.str [], V.dsl 0 false [], V.dsl 0 false []])
 [rdI t (↑(pos' t (RS.s (Prod.snd y3))) : Int) (RS.bad (Prod.snd y3)) (RS.room (Prod.snd y3))] [0])
 else
 T.bind (RS.tk (RS.mk (List.drop (Int.toNat (↑(pos' t (RS.s (Prod.snd y3))) : Int)) t) (RS.bad (Prod.snd y3)) (RS.room (Prod.snd y3))) [(116 : UInt8), (114 : UInt8), (117 : UInt8), (101 : UInt8)])
 fun y4 =>
 T.need
 [FnOK (Env.P (EVal val)) 73 [V.ptr 0 0, V.str [116, 114, 117, 101]]
 [rdI t (↑(pos' t (RS.s (Prod.snd y3))) : Int) (RS.bad (Prod.snd y3)) (RS.room (Prod.snd y3))]
 (Ret.mk (V.bool (Prod.fst y4)) [rdI t (↑(pos' t (RS.s (Prod.snd y4))) : Int) (RS.bad (Prod.snd y4)) (RS.room (Prod.snd y4))] [0])]
 (bif Prod.fst y4 then
 T.done
 (Ret.mk (V.agg [V.int IntKind.i64 (1 : Int), V.int IntKind.i64 (1 : Int), V.str [], V.dsl 0 false [], V.dsl 0 false []])
 [rdI t (↑(pos' t (RS.s (Prod.snd y4))) : Int) (RS.bad (Prod.snd y4)) (RS.room (Prod.snd y4))] [0])
 else
 T.bind
 (RS.tk (RS.mk (List.drop (Int.toNat (↑(pos' t (RS.s (Prod.snd y4))) : Int)) t) (RS.bad (Prod.snd y4)) (RS.room (Prod.snd y4)))
 [(102 : UInt8), (97 : UInt8), (108 : UInt8), (115 : UInt8), (101 : UInt8)])
 fun y5 =>
 T.need
 [FnOK (Env.P (EVal val)) 73 [V.ptr 0 0, V.str [102, 97, 108, 115, 101]]
 [rdI t (↑(pos' t (RS.s (Prod.snd y4))) : Int) (RS.bad (Prod.snd y4)) (RS.room (Prod.snd y4))]
 (Ret.mk (V.bool (Prod.fst y5)) [rdI t (↑(pos' t (RS.s (Prod.snd y5))) : Int) (RS.bad (Prod.snd y5)) (RS.room (Prod.snd y5))] [0])]
 (bif Prod.fst y5 then
 T.done
 (Ret.mk (V.agg [V.int IntKind.i64 (1 : Int), V.int IntKind.i64 (0 : Int), V.str [], V.dsl 0 false [], V.dsl 0 false []])
 [rdI t (↑(pos' t (RS.s (Prod.snd y5))) : Int) (RS.bad (Prod.snd y5)) (RS.room (Prod.snd y5))] [0])
 else
 T.bind (RS.tk (RS.mk (List.drop (Int.toNat (↑(pos' t (RS.s (Prod.snd y5))) : Int)) t) (RS.bad (Prod.snd y5)) (RS.room (Prod.snd y5))) [(34 : UInt8)]) fun y6 =>
 T.need
 [FnOK (Env.P (EVal val)) 73 [V.ptr 0 0, V.str [34]] [rdI t (↑(pos' t (RS.s (Prod.snd y5))) : Int) (RS.bad (Prod.snd y5)) (RS.room (Prod.snd y5))]
 (Ret.mk (V.bool (Prod.fst y6)) [rdI t (↑(pos' t (RS.s (Prod.snd y6))) : Int) (RS.bad (Prod.snd y6)) (RS.room (Prod.snd y6))] [0])]
 (bif Prod.fst y6 then
 T.bind (txtE (RS.bad (Prod.snd y6)) (List.drop (Int.toNat (↑(pos' t (RS.s (Prod.snd y6))) : Int)) t)) fun y7 =>
 T.need
 [FnOK (Env.P (EVal val)) 74 [V.ptr 0 0] [rdI t (↑(pos' t (RS.s (Prod.snd y6))) : Int) (RS.bad (Prod.snd y6)) (RS.room (Prod.snd y6))]
 (Ret.mk (V.str (Prod.fst y7))
 [rdI t (↑(pos' t (RS.s (RS.mk (Prod.snd (Prod.snd y7)) (Prod.fst (Prod.snd y7)) (RS.room (Prod.snd y6))))) : Int)
 (RS.bad (RS.mk (Prod.snd (Prod.snd y7)) (Prod.fst (Prod.snd y7)) (RS.room (Prod.snd y6))))
 (RS.room (RS.mk (Prod.snd (Prod.snd y7)) (Prod.fst (Prod.snd y7)) (RS.room (Prod.snd y6))))]
 [0])]
 (T.done
 (Ret.mk (V.agg [V.int IntKind.i64 (3 : Int), V.int IntKind.i64 (0 : Int), V.str (Prod.fst y7), V.dsl 0 false [], V.dsl 0 false []])
 [rdI t (↑(pos' t (RS.s (RS.mk (Prod.snd (Prod.snd y7)) (Prod.fst (Prod.snd y7)) (RS.room (Prod.snd y6))))) : Int)
 (RS.bad (RS.mk (Prod.snd (Prod.snd y7)) (Prod.fst (Prod.snd y7)) (RS.room (Prod.snd y6))))
 (RS.room (RS.mk (Prod.snd (Prod.snd y7)) (Prod.fst (Prod.snd y7)) (RS.room (Prod.snd y6))))]
 [0]))
 else
 T.bind (RS.tk (RS.mk (List.drop (Int.toNat (↑(pos' t (RS.s (Prod.snd y6))) : Int)) t) (RS.bad (Prod.snd y6)) (RS.room (Prod.snd y6))) [(91 : UInt8)]) fun y8 =>
 T.need
 [FnOK (Env.P (EVal val)) 73 [V.ptr 0 0, V.str [91]] [rdI t (↑(pos' t (RS.s (Prod.snd y6))) : Int) (RS.bad (Prod.snd y6)) (RS.room (Prod.snd y6))]
 (Ret.mk (V.bool (Prod.fst y8)) [rdI t (↑(pos' t (RS.s (Prod.snd y8))) : Int) (RS.bad (Prod.snd y8)) (RS.room (Prod.snd y8))] [0])]
 (bif Prod.fst y8 then
 T.bind (partsE [(93 : UInt8)] (listStep val) (RS.mk (List.drop (Int.toNat (↑(pos' t (RS.s (Prod.snd y8))) : Int)) t) (RS.bad (Prod.snd y8)) (RS.room (Prod.snd y8))) []) fun y9 =>
 T.need
 [FnOK (Env.P (EVal val)) 75
 [V.ptr 0 0, V.str [93], V.fn 76 [V.ptr 1 0, V.ptr 2 0, V.ptr 3 0]]
 [rdI t (↑(pos' t (RS.s (Prod.snd y8))) : Int) (RS.bad (Prod.snd y8)) (RS.room (Prod.snd y8)),
 some ([V.int IntKind.i64 (4 : Int), V.int IntKind.i64 (0 : Int), V.str [], V.dsl 0 true [], V.dsl 0 true []], 25), prB 0, dpB d]
 (Ret.mk (V.tup [])
 [rdI t (↑(pos' t (RS.s (Prod.fst y9))) : Int) (RS.bad (Prod.fst y9)) (RS.room (Prod.fst y9)),
 some
 ([V.int IntKind.i64 (4 : Int), V.int IntKind.i64 (0 : Int), V.str [], V.osl 9 0 false [],
 V.osl 25 (List.length (Prod.snd y9)) false (encs encJ (Prod.snd y9))],
 25),
 prB 0, dpB d]
 [0, 1])]
 (T.done
 (Ret.mk
 (V.agg [V.int IntKind.i64 (4 : Int), V.int IntKind.i64 (0 : Int), V.str [], V.dsl 0 false [], V.dsl (List.length (Prod.snd y9)) false (encs encJ (Prod.snd y9))])
 [rdI t (↑(pos' t (RS.s (Prod.fst y9))) : Int) (RS.bad (Prod.fst y9)) (RS.room (Prod.fst y9))] [0]))
 else
 T.bind (RS.tk (RS.mk (List.drop (Int.toNat (↑(pos' t (RS.s (Prod.snd y8))) : Int)) t) (RS.bad (Prod.snd y8)) (RS.room (Prod.snd y8))) [(123 : UInt8)]) fun y10 =>
 T.need
 [FnOK (Env.P (EVal val)) 73 [V.ptr 0 0, V.str [123]]
 [rdI t (↑(pos' t (RS.s (Prod.snd y8))) : Int) (RS.bad (Prod.snd y8)) (RS.room (Prod.snd y8))]
 (Ret.mk (V.bool (Prod.fst y10)) [rdI t (↑(pos' t (RS.s (Prod.snd y10))) : Int) (RS.bad (Prod.snd y10)) (RS.room (Prod.snd y10))] [0])]
 (bif Prod.fst y10 then
 T.bind
 (partsE [(125 : UInt8)] (objStep val) (RS.mk (List.drop (Int.toNat (↑(pos' t (RS.s (Prod.snd y10))) : Int)) t) (RS.bad (Prod.snd y10)) (RS.room (Prod.snd y10)))
 (KM.mk [] []))
 fun y11 =>
 T.need
 [FnOK (Env.P (EVal val)) 77 [V.ptr 0 0, V.int IntKind.i64 d]
 [rdI t (↑(pos' t (RS.s (Prod.snd y10))) : Int) (RS.bad (Prod.snd y10)) (RS.room (Prod.snd y10))]
 (Ret.mk
 (V.agg
 [V.int IntKind.i64 (5 : Int), V.int IntKind.i64 (0 : Int), V.str (J.t (objJ (Prod.snd y11))),
 V.dsl (List.length (J.keys (objJ (Prod.snd y11)))) false (encs encStr (J.keys (objJ (Prod.snd y11)))),
 V.dsl (List.length (J.items (objJ (Prod.snd y11)))) false (encs encJ (J.items (objJ (Prod.snd y11))))])
 [rdI t (↑(pos' t (RS.s (Prod.fst y11))) : Int) (RS.bad (Prod.fst y11)) (RS.room (Prod.fst y11))] [0])]
 (T.done
 (Ret.mk
 (V.agg
 [V.int IntKind.i64 (5 : Int), V.int IntKind.i64 (0 : Int), V.str (J.t (objJ (Prod.snd y11))),
 V.dsl (List.length (J.keys (objJ (Prod.snd y11)))) false (encs encStr (J.keys (objJ (Prod.snd y11)))),
 V.dsl (List.length (J.items (objJ (Prod.snd y11)))) false (encs encJ (J.items (objJ (Prod.snd y11))))])
 [rdI t (↑(pos' t (RS.s (Prod.fst y11))) : Int) (RS.bad (Prod.fst y11)) (RS.room (Prod.fst y11))] [0]))
 else
 T.bind (List.drop (Int.toNat (↑(pos' t (RS.s (Prod.snd y10))) : Int)) t, RS.bad (Prod.snd y10)) fun y12 =>
 T.need
 [FnOK (Env.P (EVal val)) 78 [V.ptr 0 0] [rdI t (↑(pos' t (RS.s (Prod.snd y10))) : Int) (RS.bad (Prod.snd y10)) (RS.room (Prod.snd y10))]
 (Ret.mk
 (V.agg
 [V.int IntKind.i64 (2 : Int), V.int IntKind.i64 (J.n (nmJ (Prod.fst y12))), V.str (J.t (nmJ (Prod.fst y12))), V.dsl 0 false [],
 V.dsl 0 false []])
 [rdI t (↑(pos' t (RS.s (RS.mk (List.dropWhile nmC (Prod.fst y12)) (nmB (Prod.snd y12) (Prod.fst y12)) (RS.room (Prod.snd y10))))) : Int)
 (RS.bad (RS.mk (List.dropWhile nmC (Prod.fst y12)) (nmB (Prod.snd y12) (Prod.fst y12)) (RS.room (Prod.snd y10))))
 (RS.room (RS.mk (List.dropWhile nmC (Prod.fst y12)) (nmB (Prod.snd y12) (Prod.fst y12)) (RS.room (Prod.snd y10))))]
 [0])]
 (T.done
 (Ret.mk
 (V.agg
 [V.int IntKind.i64 (2 : Int), V.int IntKind.i64 (J.n (nmJ (Prod.fst y12))), V.str (J.t (nmJ (Prod.fst y12))), V.dsl 0 false [], V.dsl 0 false []])
 [rdI t (↑(pos' t (RS.s (RS.mk (List.dropWhile nmC (Prod.fst y12)) (nmB (Prod.snd y12) (Prod.fst y12)) (RS.room (Prod.snd y10))))) : Int)
 (RS.bad (RS.mk (List.dropWhile nmC (Prod.fst y12)) (nmB (Prod.snd y12) (Prod.fst y12)) (RS.room (Prod.snd y10))))
 (RS.room (RS.mk (List.dropWhile nmC (Prod.fst y12)) (nmB (Prod.snd y12) (Prod.fst y12)) (RS.room (Prod.snd y10))))]
 [0]))))))))) := by kernel_rfl
theorem skp_skp (s : List UInt8) : skp (skp s) = skp s := by
  unfold skp
  induction s with
  | nil => rfl
  | cons c s ih =>
    rw [List.dropWhile_cons]
    cases h : blkC c with
    | true => simpa [h] using ih
    | false => simp [h]
theorem tk_at {s : List UInt8} (hs : skp s = s) (room : Int) (p : List UInt8) : (RS.mk s false room).tk p = (pfx p s, ⟨bif pfx p s then s.drop p.length else s, false, room⟩) := by
  unfold RS.tk tkB tkS tkB
  simp only [hs, Bool.not_false, Bool.true_and]
  cases pfx p s <;> rfl
def iValB (k : Nat) (s : List UInt8) (m : Int) : J × RS :=
  bif pfx wNull s then (J.zero, ⟨s.drop 4, false, m⟩)
    else bif pfx wTrue s then (.mk 1 1 [] [] [], ⟨s.drop 4, false, m⟩)
    else bif pfx wFalse s then (.mk 1 0 [] [] [], ⟨s.drop 5, false, m⟩)
    else bif pfx [34] s then (.mk 3 0 (txtE false (s.drop 1)).1 [] [], ⟨(txtE false (s.drop 1)).2.2, (txtE false (s.drop 1)).2.1, m⟩)
    else bif pfx [91] s then (.mk 4 0 [] [] (partsE [93] (listStep (iVal k)) ⟨s.drop 1, false, m⟩ []).2, (partsE [93] (listStep (iVal k)) ⟨s.drop 1, false, m⟩ []).1)
    else bif pfx [123] s then (objJ (partsE [125] (objStep (iVal k)) ⟨s.drop 1, false, m⟩ ⟨[], []⟩).2, (partsE [125] (objStep (iVal k)) ⟨s.drop 1, false, m⟩ ⟨[], []⟩).1)
    else (nmJ s, ⟨s.dropWhile nmC, nmB false s, m⟩)
theorem iVal_bad (k : Nat) (r : RS) (h : r.bad = true ∨ r.room - 1 < 0 ∨ (skp r.s).isEmpty = true) : iVal k r = (J.zero, ⟨skp r.s, true, r.room - 1⟩) := by
  cases k with
  | zero => rfl
  | succ k =>
    rw [iVal]
    have e : (r.bad || decide (r.room - 1 < 0) || (skp r.s).isEmpty) = true := by
      rcases h with h | h | h <;> simp [h]
    simp only [e, cond_true]
theorem iVal_go (k : Nat) (r : RS) (h1 : r.bad = false) (h2 : ¬ r.room - 1 < 0) (h3 : (skp r.s).isEmpty = false) : iVal (k + 1) r = iValB k (skp r.s) (r.room - 1) := by
  rw [iVal]
  have e : (r.bad || decide (r.room - 1 < 0) || (skp r.s).isEmpty) = false := by
    rw [h1, h3, decide_eq_false h2]; rfl
  simp only [e, cond_false]
  rfl
theorem iVal_out : ∀ (k : Nat) (r : RS), ROut r (iVal k r).2
  | 0, r => ⟨List.dropWhile_suffix _, by have := (List.dropWhile_suffix (l := r.s) blkC).length_le; show r.room - 1 ≤ (r.room - 1) + 2 * ((r.s.length : Int) - (r.s.dropWhile blkC).length); omega, by show r.room - 1 ≤ r.room; omega⟩
  | k + 1, r => by
    have hs : skp r.s <:+ r.s := List.dropWhile_suffix _
    have simple : ∀ (s' : List UInt8) (b : Bool), s' <:+ r.s → ROut r ⟨s', b, r.room - 1⟩ := fun s' b h => ⟨h, by have := h.length_le; show r.room - 1 ≤ (r.room - 1) + 2 * ((r.s.length : Int) - s'.length); omega, by show r.room - 1 ≤ r.room; omega⟩
    by_cases hb : r.bad = true ∨ r.room - 1 < 0 ∨ (skp r.s).isEmpty = true
    · rw [iVal_bad _ _ hb]
      exact simple _ _ hs
    · simp only [not_or, Bool.not_eq_true] at hb
      rw [iVal_go k r hb.1 hb.2.1 hb.2.2]
      have hne : 0 < (skp r.s).length := by
        cases h : skp r.s with
        | nil => rw [h] at hb; simp at hb
        | cons c s => simp
      have hd : ∀ n, (skp r.s).drop n <:+ r.s := fun n => (List.drop_suffix n _).trans hs
      have nest : ∀ y : RS, ROut ⟨(skp r.s).drop 1, false, r.room - 1⟩ y → ROut r y := fun y h => by
        have l1 := hs.length_le
        have l2 := h.suf.length_le
        have a := h.lo
        have b := h.hi
        simp only [List.length_drop] at l2 a b
        exact ⟨h.suf.trans (hd 1), by omega, by omega⟩
      unfold iValB
      cases pfx wNull (skp r.s) with
      | true => exact simple _ _ (hd 4)
      | false =>
      cases pfx wTrue (skp r.s) with
      | true => exact simple _ _ (hd 4)
      | false =>
      cases pfx wFalse (skp r.s) with
      | true => exact simple _ _ (hd 5)
      | false =>
      cases pfx [34] (skp r.s) with
      | true => exact simple _ _ ((txtE_suf _ _).trans (hd 1))
      | false =>
      cases pfx [91] (skp r.s) with
      | true => exact nest _ (partsE_out (fun r a => iVal_out k r) _ _)
      | false =>
      cases pfx [123] (skp r.s) with
      | true => exact nest _ (partsE_out (fun r a => objStep_out (iVal_out k) r a) _ _)
      | false => exact simple _ _ ((List.dropWhile_suffix _).trans hs)
theorem vwJ_zero : vwJ J.zero = [.int .i64 0, .int .i64 0, .str [], .dsl 0 false [], .dsl 0 false []] := rfl
theorem value_run {t : List UInt8} {d : Int} {k : Nat} (ht : t.length ≤ 400000) (hd : 0 ≤ d ∧ d + ((k + 1 : Nat) : Int) = 12) (hV : ValOK t (d + 1) (iVal k)) (r : RS) (hr : RIn t r) :
    FnOK Tryz.prog fVal [.ptr 0 0, .int .i64 d] [rsB t r] ⟨.agg (vwJ (iVal (k + 1) r).1), [rsB t (iVal (k + 1) r).2], [0]⟩ := by
  refine fnOK_TL (E := EVal (iVal k)) follows named (valueT (iVal k) t d (pos' t r.s : Nat) r.bad r.room) (by simp) ?_
  have hl := hr.suf.length_le
  have hw : IntKind.i64.wrap (r.room - 1) = r.room - 1 := wrap_id (by have := hr.lo; have := hr.hi; omega)
  simp only [WP_cond, T.WP, All, decide_eq_true_eq, decide_eq_false_iff_not, and_true, beq_iff_eq, beq_eq_false_iff_ne, ne_eq, hw, Int.toNat_natCast, drop_pos hr.suf]
  have hs : skp r.s <:+ t := skp_suf hr.suf
  refine ⟨fun h1 => ?_, fun h1 => ⟨fun h2 => by omega, fun h2 => ?_⟩⟩
  · rintro y rfl
    rw [iVal_bad _ _ (.inr (.inl h1))]
    exact ⟨skip_ok (by omega) hr.suf true _, ⟨rfl, rfl, by simp⟩⟩
  · rintro y rfl
    refine ⟨skip_ok (by omega) hr.suf r.bad _, fun h3 => ?_, fun h3 => ⟨fun h4 => ?_, fun h4 => ?_⟩⟩
    · rw [iVal_bad _ _ (.inl h3)]
      exact ⟨rfl, rfl, by simp⟩
    · have he : (skp r.s).isEmpty = true := by
        have l := hs.length_le
        unfold pos' at h4
        have : (skp r.s).length = 0 := by omega
        rw [List.isEmpty_iff, List.eq_nil_of_length_eq_zero this]
      rw [iVal_bad _ _ (.inr (.inr he))]
      exact ⟨rfl, rfl, by simp⟩
    · have he : (skp r.s).isEmpty = false := by
        cases h : skp r.s with
        | nil => rw [h] at h4; unfold pos' at h4; simp at h4
        | cons c s => rfl
      rw [iVal_go k r h3 h1 he]
      have hss := skp_skp r.s
      have hlen := (List.dropWhile_suffix (l := r.s) blkC).length_le
      have hlo := hr.lo
      have hhi := hr.hi
      have hne : 0 < (skp r.s).length := by
        cases h : skp r.s with
        | nil => rw [h] at he; simp at he
        | cons c s => simp
      change (skp r.s).length ≤ r.s.length at hlen
      rw [h3]
      generalize skp r.s = s at *
      generalize hm : r.room - 1 = m at *
      have tk : ∀ p, FnOK Tryz.prog fTake [.ptr 0 0, .str p] [rdI t (pos' t s : Nat) false m] ⟨.bool (pfx p s), [rdI t (pos' t (bif pfx p s then s.drop p.length else s) : Nat) false m], [0]⟩ := fun p => by
        have h := tk_ok p (by omega) ⟨s, false, m⟩ hs
        rw [tk_at hss] at h
        exact h
      have hd : ∀ n, s.drop n <:+ t := fun n => (List.drop_suffix n _).trans hs
      have hIn : RIn t ⟨s.drop 1, false, m⟩ := by
        have : (s.drop 1).length ≤ s.length - 1 := by simp
        exact ⟨hd 1, by show 0 ≤ m + 2 * ((t.length : Int) - (s.drop 1).length); omega, by show m ≤ 400; omega⟩
      simp only [iValB, wNull, wTrue, wFalse]
      rw [drop_pos hs, tk_at hss]
      rintro y rfl
      refine ⟨tk _, fun h => ?_, fun h => ?_⟩
      · dsimp only at h
        simp only [h, cond_true]
        exact ⟨rfl, rfl, by simp⟩
      dsimp only at h
      simp only [h, cond_false]
      rw [drop_pos hs, tk_at hss]
      rintro y rfl
      refine ⟨tk _, fun h => ?_, fun h => ?_⟩
      · dsimp only at h
        simp only [h, cond_true]
        exact ⟨rfl, rfl, by simp⟩
      dsimp only at h
      simp only [h, cond_false]
      rw [drop_pos hs, tk_at hss]
      rintro y rfl
      refine ⟨tk _, fun h => ?_, fun h => ?_⟩
      · dsimp only at h
        simp only [h, cond_true]
        exact ⟨rfl, rfl, by simp⟩
      dsimp only at h
      simp only [h, cond_false]
      rw [drop_pos hs, tk_at hss]
      rintro y rfl
      refine ⟨tk _, fun h => ?_, fun h => ?_⟩
      · dsimp only at h
        simp only [h, cond_true, List.length_singleton]
        rw [drop_pos (hd 1)]
        rintro y rfl
        exact ⟨text_ok idxB_ok (by omega) (hd 1) false m, ⟨rfl, rfl, by simp⟩⟩
      dsimp only at h
      simp only [h, cond_false]
      rw [drop_pos hs, tk_at hss]
      rintro y rfl
      refine ⟨tk _, fun h => ?_, fun h => ?_⟩
      · dsimp only at h
        simp only [h, cond_true, List.length_singleton]
        rw [drop_pos (hd 1)]
        rintro y rfl
        exact ⟨partsList_nil (by omega) (by omega) hV _ hIn, ⟨rfl, rfl, by simp⟩⟩
      dsimp only at h
      simp only [h, cond_false]
      rw [drop_pos hs, tk_at hss]
      rintro y rfl
      refine ⟨tk _, fun h => ?_, fun h => ?_⟩
      · dsimp only at h
        simp only [h, cond_true, List.length_singleton]
        rw [drop_pos (hd 1)]
        rintro y rfl
        exact ⟨object_ok (by omega) (by omega) hV _ hIn, ⟨rfl, rfl, by simp⟩⟩
      dsimp only at h
      simp only [h, cond_false]
      rw [drop_pos hs]
      rintro y rfl
      exact ⟨number_ok atoi_ok (by omega) hs false m, ⟨rfl, rfl, by simp⟩⟩
theorem value_ok {t : List UInt8} (ht : t.length ≤ 400000) : ∀ (k : Nat) (d : Int), 0 ≤ d → d + (k : Nat) = 12 → ValOK t d (iVal k)
  | 0, d, hd, hk => by
    refine ⟨fun r hr => ?_, iVal_out 0⟩
    refine fnOK_TL (E := EVal (iVal 0)) follows named (valueT (iVal 0) t d (pos' t r.s : Nat) r.bad r.room) (by simp) ?_
    have hl := hr.suf.length_le
    have hw : IntKind.i64.wrap (r.room - 1) = r.room - 1 := wrap_id (by have := hr.lo; have := hr.hi; omega)
    simp only [WP_cond, T.WP, All, decide_eq_true_eq, decide_eq_false_iff_not, and_true, beq_iff_eq, beq_eq_false_iff_ne, ne_eq, hw, Int.toNat_natCast, drop_pos hr.suf]
    refine ⟨fun h1 => ?_, fun h1 => ⟨fun h2 => ?_, fun h2 => by omega⟩⟩
    · rintro y rfl
      exact ⟨skip_ok (by omega) hr.suf true _, ⟨rfl, rfl, by simp⟩⟩
    · rintro y rfl
      exact ⟨skip_ok (by omega) hr.suf true _, ⟨rfl, rfl, by simp⟩⟩
  | k + 1, d, hd, hk => ⟨fun r hr => value_run ht ⟨hd, hk⟩ (value_ok ht k (d + 1) (by omega) (by omega)) r hr, iVal_out (k + 1)⟩
end Go.Proofs.YtfncaghjfgnnhaaGreatDoor

namespace Go.Proofs.YtfncaghjfgnnhaaGreatDoor
open Go.RowKit
set_option maxRecDepth 100000

abbrev fParse : Nat := 25
abbrev fParseJson : Nat := 7
abbrev fIsTx : Nat := 24
def iVal0 (t : List UInt8) : J × RS := iVal 12 ⟨t, false, 400⟩
def iEnd (v : J × RS) : Bool := !v.2.bad && (skp v.2.s).isEmpty
def iPar (t : List UInt8) : J × Bool := bif iEnd (iVal0 t) then ((iVal0 t).1, true) else (J.zero, false)
noncomputable def resPar : ResT := fun f vs hp => match vs, hp with
  | [.ptr 0 0], [some ([.str t, .int _ i, .bool bad, .int _ room], _)] =>
    bif Nat.beq f fSkip then some ⟨skp (t.drop i.toNat), fun y => ⟨.tup [], [rsB t ⟨y, bad, room⟩], [0]⟩⟩ else none
  | [.ptr 0 0, .int _ _], [some ([.str t, .int _ _, .bool _, .int _ _], _)] => bif Nat.beq f fVal then some ⟨iVal0 t, fun y => ⟨.agg (vwJ y.1), [rsB t y.2], [0]⟩⟩ else none
  | [.str t], [] => bif Nat.beq f fParse then some ⟨iPar t, fun y => ⟨.tup [.agg (vwJ y.1), .bool y.2], [], []⟩⟩
    else bif Nat.beq f fIsTx then some ⟨decide (t.length ≤ 65536), fun y => ⟨.bool y, [], []⟩⟩ else none
  | _, _ => none
noncomputable def EPar : Env := { P := Tryz.prog, vw := vwA, res := resPar }
--FOLD vwJ rdI rsB
set_option maxRecDepth 100000 in
theorem parseT (t : List UInt8) : fnT EPar 0 fParse [.str t] [] =
 T.bind (iVal0 t) fun y0 =>
 T.need
 [FnOK (Env.P EPar) 47 [V.ptr 0 0, V.int IntKind.i64 (0 : Int)] [rdI t (0 : Int) false (400 : Int)]
 (Ret.mk (V.agg (vwJ (Prod.fst y0))) [rdI t (↑(pos' t (RS.s (Prod.snd y0))) : Int) (RS.bad (Prod.snd y0)) (RS.room (Prod.snd y0))] [0])]
 (T.bind (skp (List.drop (Int.toNat (↑(pos' t (RS.s (Prod.snd y0))) : Int)) t)) fun y1 =>
 T.need
 [FnOK (Env.P EPar) 48 [V.ptr 0 0] [rdI t (↑(pos' t (RS.s (Prod.snd y0))) : Int) (RS.bad (Prod.snd y0)) (RS.room (Prod.snd y0))]
 (Ret.mk (V.tup [])
 [rdI t (↑(pos' t (RS.s (RS.mk y1 (RS.bad (Prod.snd y0)) (RS.room (Prod.snd y0))))) : Int) (RS.bad (RS.mk y1 (RS.bad (Prod.snd y0)) (RS.room (Prod.snd y0))))
 (RS.room (RS.mk y1 (RS.bad (Prod.snd y0)) (RS.room (Prod.snd y0))))]
 [0])]
 (bif RS.bad (RS.mk y1 (RS.bad (Prod.snd y0)) (RS.room (Prod.snd y0))) then
 T.done (Ret.mk (V.tup [V.agg [V.int IntKind.i64 (0 : Int), V.int IntKind.i64 (0 : Int), V.str [], V.dsl 0 false [], V.dsl 0 false []], V.bool false]) [] [])
 else
 bif decide ((↑(pos' t (RS.s (RS.mk y1 (RS.bad (Prod.snd y0)) (RS.room (Prod.snd y0))))) : Int) < (↑(List.length t) : Int)) then
 T.done (Ret.mk (V.tup [V.agg [V.int IntKind.i64 (0 : Int), V.int IntKind.i64 (0 : Int), V.str [], V.dsl 0 false [], V.dsl 0 false []], V.bool false]) [] [])
 else T.done (Ret.mk (V.tup [V.agg (vwJ (Prod.fst y0)), V.bool true]) [] []))) := (T.force_eq _).symm.trans (by kernel_rfl)
set_option maxRecDepth 100000 in
theorem isTxT (t : List UInt8) : fnT EPar 0 fIsTx [.str t] [] =
 T.done (Ret.mk (V.bool (decide ((↑(List.length t) : Int) ≤ (65536 : Int)))) [] []) := (T.force_eq _).symm.trans (by kernel_rfl)
set_option maxRecDepth 100000 in
theorem parseJT (t : List UInt8) : fnT EPar 0 fParseJson [.str t] [] =
 T.bind (decide (List.length t ≤ 65536)) fun y0 =>
 T.need [FnOK (Env.P EPar) 24 [V.str t] [] (Ret.mk (V.bool y0) [] [])]
 (bif !y0 then T.done (Ret.mk (V.tup [V.agg [V.int IntKind.i64 (0 : Int), V.int IntKind.i64 (0 : Int), V.str [], V.dsl 0 false [], V.dsl 0 false []], V.int IntKind.i64 (2 : Int)]) [] [])
 else
 T.bind (iPar t) fun y1 =>
 T.need [FnOK (Env.P EPar) 25 [V.str t] [] (Ret.mk (V.tup [V.agg (vwJ (Prod.fst y1)), V.bool (Prod.snd y1)]) [] [])]
 (bif !Prod.snd y1 then T.done (Ret.mk (V.tup [V.agg [V.int IntKind.i64 (0 : Int), V.int IntKind.i64 (0 : Int), V.str [], V.dsl 0 false [], V.dsl 0 false []], V.int IntKind.i64 (3 : Int)]) [] [])
 else T.done (Ret.mk (V.tup [V.agg (vwJ (Prod.fst y1)), V.int IntKind.i64 (0 : Int)]) [] []))) := (T.force_eq _).symm.trans (by kernel_rfl)
theorem isTx_ok (t : List UInt8) : FnOK Tryz.prog fIsTx [.str t] [] ⟨.bool (decide (t.length ≤ 65536)), [], []⟩ := by
  refine fnOK_TL (E := EPar) follows named (isTxT t) (by simp) ?_
  simp only [T.WP]
  have e : decide ((t.length : Int) ≤ 65536) = decide (t.length ≤ 65536) := decide_eq_decide.2 (by omega)
  rw [e]
  exact ⟨rfl, rfl, by simp⟩
theorem iVal0_suf (t : List UInt8) : (iVal0 t).2.s <:+ t := (iVal_out 12 ⟨t, false, 400⟩).suf
theorem parse_ok (t : List UInt8) (ht : t.length ≤ 65536) : FnOK Tryz.prog fParse [.str t] [] ⟨.tup [.agg (vwJ (iPar t).1), .bool (iPar t).2], [], []⟩ := by
  refine fnOK_TL (E := EPar) follows named (parseT t) (by simp) ?_
  simp only [WP_cond, T.WP, All, decide_eq_true_eq, decide_eq_false_iff_not, and_true]
  have hv := (value_ok (t := t) (by omega) 12 0 (by omega) rfl).run ⟨t, false, 400⟩ ⟨List.suffix_refl _, by show 0 ≤ (400 : Int) + 2 * ((t.length : Int) - t.length); omega, by show (400 : Int) ≤ 400; omega⟩
  have hs := iVal0_suf t
  have e0 : rdI t (0 : Int) false 400 = rsB t ⟨t, false, 400⟩ := by
    unfold rsB pos'; simp
  rintro y rfl
  rw [e0]
  refine ⟨hv, ?_⟩
  rw [Int.toNat_natCast, drop_pos hs]
  rintro y rfl
  have ec : iPar t = bif !(iVal0 t).2.bad && (skp (iVal0 t).2.s).isEmpty then ((iVal0 t).1, true) else (J.zero, false) := rfl
  have hk : skp (iVal0 t).2.s <:+ t := skp_suf hs
  refine ⟨skip_ok (by omega) hs _ _, fun h => ?_, fun h => ⟨fun h2 => ?_, fun h2 => ?_⟩⟩
  · rw [ec, h]; exact ⟨rfl, rfl, by simp⟩
  · have : (skp (iVal0 t).2.s).isEmpty = false := by
      cases hh : skp (iVal0 t).2.s with
      | nil => rw [hh] at h2; unfold pos' at h2; simp at h2
      | cons c s => rfl
    rw [ec, h, this]; exact ⟨rfl, rfl, by simp⟩
  · have : (skp (iVal0 t).2.s).isEmpty = true := by
      have l := hk.length_le
      unfold pos' at h2
      exact List.isEmpty_iff.2 (List.eq_nil_of_length_eq_zero (by omega))
    rw [ec, h, this]; exact ⟨rfl, rfl, by simp⟩
def iPJ (t : List UInt8) : J × Int := bif decide (t.length ≤ 65536) then (bif (iPar t).2 then ((iPar t).1, 0) else (J.zero, 3)) else (J.zero, 2)
theorem parseJson_ok (t : List UInt8) : FnOK Tryz.prog fParseJson [.str t] [] ⟨.tup [.agg (vwJ (iPJ t).1), .int .i64 (iPJ t).2], [], []⟩ := by
  refine fnOK_TL (E := EPar) follows named (parseJT t) (by simp) ?_
  simp only [WP_cond, T.WP, All, and_true]
  rintro y rfl
  refine ⟨isTx_ok t, fun h => ?_, fun h => ?_⟩
  · have h : decide (t.length ≤ 65536) = false := by simpa using h
    unfold iPJ; rw [h]; exact ⟨rfl, rfl, by simp⟩
  · have h : decide (t.length ≤ 65536) = true := by simpa using h
    have ht : t.length ≤ 65536 := by simpa using h
    rintro y rfl
    refine ⟨parse_ok t ht, fun h1 => ?_, fun h1 => ?_⟩
    · have h1 : (iPar t).2 = false := by simpa using h1
      unfold iPJ; rw [h, h1]; exact ⟨rfl, rfl, by simp⟩
    · have h1 : (iPar t).2 = true := by simpa using h1
      unfold iPJ; rw [h, h1]; exact ⟨rfl, rfl, by simp⟩
end Go.Proofs.YtfncaghjfgnnhaaGreatDoor

namespace Go.Proofs.YtfncaghjfgnnhaaGreatDoor
open Go.RowKit
set_option maxRecDepth 100000

theorem decFrom_snoc (b : UInt8) (d : Nat) (hb : Lib.digitVal b = some d) : ∀ (l : List UInt8) (acc m : Nat), Lib.decFrom acc l = some m → Lib.decFrom acc (l ++ [b]) = some (m * 10 + d)
  | [], acc, m, h => by
    simp only [Lib.decFrom, Option.some.injEq] at h
    subst h
    simp [Lib.decFrom, hb]
  | c :: l, acc, m, h => by
    rw [List.cons_append]
    unfold Lib.decFrom at h ⊢
    cases hc : Lib.digitVal c with
    | none => rw [hc] at h; cases h
    | some v =>
      rw [hc] at h
      exact decFrom_snoc b d hb l _ m h
theorem dig_ok (u : Nat) (h : u < 10) : Lib.digitVal (UInt8.ofNat (48 + u)) = some u := by
  have : (UInt8.ofNat (48 + u)).toNat = 48 + u := by rw [UInt8.toNat_ofNat']; omega
  unfold Lib.digitVal
  rw [this, if_pos (by omega)]
  congr 1; omega
theorem decFrom_one (u : Nat) (hu : u < 10) : Lib.decFrom 0 [UInt8.ofNat (48 + u)] = some u := by
  unfold Lib.decFrom
  rw [dig_ok u hu]
  show Lib.decFrom (0 * 10 + u) [] = _
  simp [Lib.decFrom]
theorem decDigits_ok : ∀ (k u : Nat), u < 10 ^ (k + 1) → Lib.decFrom 0 (Lib.decDigits u) = some u ∧ (∀ c ∈ Lib.decDigits u, dgtI ((c.toNat : Nat) : Int) = true) ∧ 1 ≤ (Lib.decDigits u).length ∧ (Lib.decDigits u).length ≤ k + 1 := by
  intro k
  have hd : ∀ v, v < 10 → dgtI (((UInt8.ofNat (48 + v)).toNat : Nat) : Int) = true := fun v hv => by
    have : (UInt8.ofNat (48 + v)).toNat = 48 + v := by rw [UInt8.toNat_ofNat']; omega
    rw [this]
    unfold dgtI
    simp; omega
  induction k with
  | zero =>
    intro u h
    have hu : u < 10 := by simpa using h
    rw [Lib.decDigits, dif_pos hu]
    refine ⟨decFrom_one u hu, fun c hc => ?_, by simp, by simp⟩
    · obtain rfl := List.mem_singleton.1 hc
      exact hd u hu
  | succ k ih =>
    intro u h
    rw [Lib.decDigits]
    by_cases hu : u < 10
    · rw [dif_pos hu]
      refine ⟨decFrom_one u hu, fun c hc => ?_, by simp, by simp⟩
      · obtain rfl := List.mem_singleton.1 hc
        exact hd u hu
    · rw [dif_neg hu]
      obtain ⟨h1, h2, h3, h4⟩ := ih (u / 10) (by rw [Nat.pow_succ] at h; omega)
      refine ⟨?_, fun c hc => ?_, by simp, by simp; omega⟩
      · rw [decFrom_snoc _ (u % 10) (dig_ok _ (by omega)) _ _ _ h1]
        congr 1; omega
      · rcases List.mem_append.1 hc with hc | hc
        · exact h2 c hc
        · obtain rfl := List.mem_singleton.1 hc
          exact hd _ (by omega)
theorem nmC_dgt {c : UInt8} (h : dgtI ((c.toNat : Nat) : Int) = true) : nmC c = true := by unfold nmC; rw [h]; simp
theorem dgt_ne {c : UInt8} (h : dgtI ((c.toNat : Nat) : Int) = true) : c ≠ 45 ∧ c ≠ 43 := by
  unfold dgtI at h
  rw [Bool.and_eq_true, decide_eq_true_eq, decide_eq_true_eq] at h
  constructor
  · rintro rfl
    have : (45 : UInt8).toNat = 45 := rfl
    omega
  · rintro rfl
    have : (43 : UInt8).toNat = 43 := rfl
    omega
structure DgOK (n : Int) : Prop where
  atoi : Lib.atoi (dg n) = some n
  nm : ∀ c ∈ dg n, nmC c = true
  len : 1 ≤ (dg n).length ∧ (dg n).length ≤ 11
theorem dgOK (n : Int) (h : -1000000000 ≤ n ∧ n ≤ 1000000000) : DgOK n := by
  have e := itoa_dg n (by omega)
  unfold Lib.itoa at e
  split at e
  · rename_i h0
    obtain ⟨h1, h2, h3, h4⟩ := decDigits_ok 9 n.natAbs (by omega)
    refine ⟨?_, fun c hc => ?_, ?_⟩
    · rw [← e]
      have hne : (Lib.decDigits n.natAbs).isEmpty = false := by cases hh : Lib.decDigits n.natAbs with
        | nil => rw [hh] at h3; simp at h3
        | cons c s => rfl
      simp only [Lib.atoi, beq_self_eq_true, if_true, Lib.decNat, hne, h1, Bool.false_eq_true, if_false, Option.map_some, Option.some.injEq]
      omega
    · rw [← e] at hc
      rcases List.mem_cons.1 hc with rfl | hc
      · rfl
      · exact nmC_dgt (h2 c hc)
    · rw [← e, List.length_cons]; omega
  · rename_i h0
    obtain ⟨h1, h2, h3, h4⟩ := decDigits_ok 9 n.toNat (by omega)
    refine ⟨?_, fun c hc => ?_, ?_⟩
    · rw [← e]
      cases hh : Lib.decDigits n.toNat with
      | nil => rw [hh] at h3; simp at h3
      | cons c s =>
        rw [hh] at h1 h2
        have hc := dgt_ne (h2 c (by simp))
        simp only [Lib.atoi, beq_iff_eq, hc.1, hc.2, if_false, Lib.decNat, List.isEmpty_cons, h1, Bool.false_eq_true, Option.map_some, Option.some.injEq]
        omega
    · rw [← e] at hc
      exact nmC_dgt (h2 c hc)
    · rw [← e]; omega
theorem rdN_dg (n : Int) (h : -1000000000 ≤ n ∧ n ≤ 1000000000) : rdN (dg n) = (n, true) := by
  have hD := dgOK n h
  have ea : atoiV (dg n) = (n, true) := by
    unfold atoiV
    rw [Lib.atoiAll_short _ (by have := hD.len; omega), hD.atoi]
    rfl
  have hl : (trimP [45] (dg n)).length ≤ 18 := by
    have := hD.len
    unfold trimP
    split
    · rw [List.length_drop]; omega
    · omega
  unfold rdN
  rw [ea]
  simp only [itoa_dg n (by omega), beq_self_eq_true, Bool.and_true, decide_eq_true hl, cond_true]
def NoNm (s : List UInt8) : Prop := ∀ c t, s = c :: t → nmC c = false
theorem takeW_app {p : UInt8 → Bool} : ∀ (a b : List UInt8), (∀ c ∈ a, p c = true) → (∀ c t, b = c :: t → p c = false) → (a ++ b).takeWhile p = a ∧ (a ++ b).dropWhile p = b
  | [], b, _, hb => by
    cases b with
    | nil => exact ⟨rfl, rfl⟩
    | cons c t => simp [hb c t rfl]
  | c :: a, b, ha, hb => by
    obtain ⟨h1, h2⟩ := takeW_app a b (fun x hx => ha x (by simp [hx])) hb
    simp [ha c (by simp), h1, h2]
end Go.Proofs.YtfncaghjfgnnhaaGreatDoor

namespace Go.Proofs.YtfncaghjfgnnhaaGreatDoor
open Go.RowKit
set_option maxRecDepth 100000

theorem txtR_esc : ∀ (t W rest : List UInt8), txtR (escL t ++ 34 :: rest) W = some (W ++ t, !plainT (W ++ t), rest)
  | [], W, rest => by
    show txtR (34 :: rest) W = _
    rw [txtR_q, List.append_nil]
  | c :: t, W, rest => by
    have ih := txtR_esc t (W ++ [c]) rest
    rw [List.append_assoc, List.singleton_append] at ih
    rw [escL_cons, List.append_assoc]
    unfold escB
    by_cases h1 : c = 34
    · subst h1
      rw [if_pos rfl]
      show txtR (92 :: 34 :: (escL t ++ 34 :: rest)) W = _
      rw [txtR_e2, if_pos (by decide), ih]
    · by_cases h2 : c = 92
      · subst h2
        rw [if_neg h1, if_pos rfl]
        show txtR (92 :: 92 :: (escL t ++ 34 :: rest)) W = _
        rw [txtR_e2, if_pos (by decide), ih]
      · rw [if_neg h1, if_neg h2]
        show txtR (c :: (escL t ++ 34 :: rest)) W = _
        rw [txtR_o _ _ h1 h2, ih]
theorem txtE_esc (t rest : List UInt8) (h : plainT t = true) : txtE false (escL t ++ 34 :: rest) = (t, false, rest) := by
  unfold txtE
  simp only [cond_false, txtR_esc, List.nil_append, h, Bool.not_true, Option.getD_some]
theorem txtR_pre : ∀ (t W q u : List UInt8) (y : List UInt8 × Bool × List UInt8), u ≠ [] → q ++ u = escL t ++ [34] → txtR q W = some y → y.2.1 = true
  | _, W, [], u, y, _, _, h => by simp [txtR] at h
  | [], W, c :: q, u, y, hu, e, h => by
    exfalso
    have := congrArg List.length e
    have l : 1 ≤ u.length := by cases u; exact absurd rfl hu; simp
    simp only [escL, List.flatMap_nil, List.nil_append, List.length_append, List.length_cons, List.length_nil] at this
    omega
  | a :: t, W, c :: q, u, y, hu, e, h => by
    rw [escL_cons, List.append_assoc] at e
    unfold escB at e
    by_cases h1 : a = 34
    · subst h1
      rw [if_pos rfl] at e
      simp only [List.cons_append, List.nil_append, List.cons.injEq] at e
      obtain ⟨rfl, e⟩ := e
      cases q with
      | nil => rw [txtR_e1] at h; cases h; rfl
      | cons d q =>
        simp only [List.cons_append, List.cons.injEq] at e
        obtain ⟨rfl, e⟩ := e
        rw [txtR_e2, if_pos (by decide)] at h
        exact txtR_pre t _ q u y hu e h
    · by_cases h2 : a = 92
      · subst h2
        rw [if_neg h1, if_pos rfl] at e
        simp only [List.cons_append, List.nil_append, List.cons.injEq] at e
        obtain ⟨rfl, e⟩ := e
        cases q with
        | nil => rw [txtR_e1] at h; cases h; rfl
        | cons d q =>
          simp only [List.cons_append, List.cons.injEq] at e
          obtain ⟨rfl, e⟩ := e
          rw [txtR_e2, if_pos (by decide)] at h
          exact txtR_pre t _ q u y hu e h
      · rw [if_neg h1, if_neg h2] at e
        simp only [List.cons_append, List.nil_append, List.cons.injEq] at e
        obtain ⟨rfl, e⟩ := e
        rw [txtR_o _ _ h1 h2] at h
        exact txtR_pre t _ q u y hu e h
theorem txtE_pre {t q u : List UInt8} (hu : u ≠ []) (e : q ++ u = escL t ++ [34]) : (txtE false q).2.1 = true := by
  unfold txtE
  simp only [cond_false]
  cases h : txtR q [] with
  | none => rfl
  | some y => exact txtR_pre t [] q u y hu e h
theorem txtE_bad (s : List UInt8) : (txtE true s).2.1 = true := rfl

theorem pre_app {p u a b : List UInt8} (h : p ++ u = a ++ b) : (∃ v, v ≠ [] ∧ p ++ v = a) ∨ ∃ q, p = a ++ q ∧ q ++ u = b := by
  rcases List.append_eq_append_iff.1 h with ⟨v, h1, h2⟩ | ⟨q, h1, h2⟩
  · cases v with
    | nil =>
      refine .inr ⟨[], by simpa using h1.symm, ?_⟩
      simpa using h2
    | cons c v => exact .inl ⟨c :: v, by simp, h1.symm⟩
  · exact .inr ⟨q, h1, h2.symm⟩

theorem skp_nb {c : UInt8} (s : List UInt8) (h : blkC c = false) : skp (c :: s) = c :: s := by unfold skp; rw [List.dropWhile_cons, h]; rfl
theorem pfx_ne {a c : UInt8} (p s : List UInt8) (h : a ≠ c) : pfx (a :: p) (c :: s) = false := by
  unfold pfx
  rw [List.length_cons, List.take_succ_cons, beq_eq_false_iff_ne]
  intro e
  exact h (List.cons.inj e).1.symm
theorem pfx_one (c : UInt8) (s : List UInt8) : pfx [c] (c :: s) = true := by simp [pfx]
theorem pfx_nil (a : UInt8) (p : List UInt8) : pfx (a :: p) [] = false := by simp [pfx]
theorem tk_yes {c : UInt8} (s : List UInt8) (m : Int) (h : blkC c = false) : (RS.mk (c :: s) false m).tk [c] = (true, ⟨s, false, m⟩) := by
  rw [tk_at (skp_nb s h), pfx_one]; rfl
theorem tk_no {a c : UInt8} (s : List UInt8) (m : Int) (h : blkC c = false) (hn : a ≠ c) : (RS.mk (c :: s) false m).tk [a] = (false, ⟨c :: s, false, m⟩) := by
  rw [tk_at (skp_nb s h), pfx_ne _ _ hn]; rfl
theorem tk_nil (a : UInt8) (m : Int) : (RS.mk [] false m).tk [a] = (false, ⟨[], false, m⟩) := by
  rw [tk_at rfl, pfx_nil]; rfl
theorem tk_bad (p s : List UInt8) (m : Int) : (RS.mk s true m).tk p = (false, ⟨skp s, true, m⟩) := rfl
theorem want_yes {c : UInt8} (s : List UInt8) (m : Int) (h : blkC c = false) : (RS.mk (c :: s) false m).want [c] = ⟨s, false, m⟩ := by
  have e := tk_yes s m h
  unfold RS.tk at e
  unfold RS.want
  simp only [Prod.mk.injEq, RS.mk.injEq] at e
  simp only [e.1, e.2.1, Bool.not_true]
theorem want_no (r : RS) (p : List UInt8) (h : (r.tk p).1 = false) : (r.want p).bad = true := by
  have h : tkB p r.s r.bad = false := h
  show (!tkB p r.s r.bad) = true
  rw [h]; rfl
theorem want_bad (r : RS) (p : List UInt8) (h : r.bad = true) : (r.want p).bad = true := want_no r p (by unfold RS.tk tkB; rw [h]; rfl)
end Go.Proofs.YtfncaghjfgnnhaaGreatDoor

namespace Go.Proofs.YtfncaghjfgnnhaaGreatDoor
open Go.RowKit
set_option maxRecDepth 100000

theorem iValB_lst (k : Nat) (s : List UInt8) (m : Int) : iValB k (91 :: s) m = (.mk 4 0 [] [] (partsE [93] (listStep (iVal k)) ⟨s, false, m⟩ []).2, (partsE [93] (listStep (iVal k)) ⟨s, false, m⟩ []).1) := by
  unfold iValB wNull wTrue wFalse
  rw [pfx_ne _ _ (by decide), pfx_ne _ _ (by decide), pfx_ne _ _ (by decide), pfx_ne _ _ (by decide), pfx_one]
  rfl
theorem iValB_obj (k : Nat) (s : List UInt8) (m : Int) : iValB k (123 :: s) m = (objJ (partsE [125] (objStep (iVal k)) ⟨s, false, m⟩ ⟨[], []⟩).2, (partsE [125] (objStep (iVal k)) ⟨s, false, m⟩ ⟨[], []⟩).1) := by
  unfold iValB wNull wTrue wFalse
  rw [pfx_ne _ _ (by decide), pfx_ne _ _ (by decide), pfx_ne _ _ (by decide), pfx_ne _ _ (by decide), pfx_ne _ _ (by decide), pfx_one]
  rfl
theorem iValB_txt (k : Nat) (s : List UInt8) (m : Int) : iValB k (34 :: s) m = (.mk 3 0 (txtE false s).1 [] [], ⟨(txtE false s).2.2, (txtE false s).2.1, m⟩) := by
  unfold iValB wNull wTrue wFalse
  rw [pfx_ne _ _ (by decide), pfx_ne _ _ (by decide), pfx_ne _ _ (by decide), pfx_one]
  rfl
theorem iValB_num (k : Nat) (c : UInt8) (s : List UInt8) (m : Int) (h : nmC c = true) : iValB k (c :: s) m = (nmJ (c :: s), ⟨(c :: s).dropWhile nmC, nmB false (c :: s), m⟩) := by
  have ne : ∀ a : UInt8, nmC a = false → a ≠ c := fun a ha e => by rw [e, h] at ha; cases ha
  unfold iValB wNull wTrue wFalse
  rw [pfx_ne _ _ (ne _ (by decide)), pfx_ne _ _ (ne _ (by decide)), pfx_ne _ _ (ne _ (by decide)), pfx_ne _ _ (ne _ (by decide)), pfx_ne _ _ (ne _ (by decide)), pfx_ne _ _ (ne _ (by decide))]
  rfl
theorem nmC_blk {c : UInt8} (h : nmC c = true) : blkC c = false := by
  cases hb : blkC c with
  | false => rfl
  | true =>
    exfalso
    unfold blkC blkI at hb
    unfold nmC dgtI at h
    simp only [Bool.or_eq_true, beq_iff_eq, Bool.and_eq_true, decide_eq_true_eq] at hb h
    rcases h with rfl | h
    · have : (45 : UInt8).toNat = 45 := rfl
      omega
    · omega
inductive PHead : J → Prop where
  | null {n : Int} {t ks its} : PHead (.mk 0 n t ks its)
  | ff : PHead (.mk 1 0 [] [] [])
  | tt : PHead (.mk 1 1 [] [] [])
  | num {n : Int} (h : -1000000000 ≤ n ∧ n ≤ 1000000000) : PHead (.mk 2 n [] [] [])
  | txt {t : List UInt8} (h : plainT t = true) : PHead (.mk 3 0 t [] [])
  | lst {its : List J} : PHead (.mk 4 0 [] [] its)
  | obj {ks : List (List UInt8)} {its : List J} (hl : ks.length = its.length) (h : areK ks = true) : PHead (.mk 5 0 [] ks its)
theorem part_head {j : J} (h : partJ j = true) : (j = J.zero ∨ j.kind ≠ 0) ∧ PHead j := by
  obtain ⟨k, n, t, ks, its⟩ := j
  unfold partJ at h
  by_cases h0 : k = 0
  · subst h0; simp at h; obtain ⟨⟨⟨rfl, rfl⟩, rfl⟩, rfl⟩ := h; exact ⟨.inl rfl, .null⟩
  refine ⟨.inr h0, ?_⟩
  by_cases h1 : k = 1
  · subst h1; simp at h; obtain ⟨⟨⟨h, rfl⟩, rfl⟩, rfl⟩ := h
    have : n = 0 ∨ n = 1 := by omega
    rcases this with rfl | rfl
    · exact .ff
    · exact .tt
  by_cases h2 : k = 2
  · subst h2; simp at h; obtain ⟨⟨⟨h, rfl⟩, rfl⟩, rfl⟩ := h; exact .num h
  by_cases h3 : k = 3
  · subst h3; simp at h; obtain ⟨⟨⟨rfl, h⟩, rfl⟩, rfl⟩ := h; exact .txt h
  by_cases h4 : k = 4
  · subst h4; simp at h; obtain ⟨⟨rfl, rfl⟩, rfl⟩ := h; exact .lst
  by_cases h5 : k = 5
  · subst h5; simp at h; obtain ⟨⟨⟨rfl, rfl⟩, he⟩, h⟩ := h; exact .obj he h
  · simp [h0, h1, h2, h3, h4, h5] at h
theorem dg_cons (n : Int) (h : -1000000000 ≤ n ∧ n ≤ 1000000000) : ∃ c s, dg n = c :: s ∧ nmC c = true := by
  have hD := dgOK n h
  cases e : dg n with
  | nil => have := hD.len; rw [e] at this; simp at this
  | cons c s => exact ⟨c, s, rfl, hD.nm c (by rw [e]; simp)⟩
theorem pj_num (n : Int) : pj (.mk 2 n [] [] []) = dg n := by rw [pj]; rfl
theorem pj_txt (t : List UInt8) : pj (.mk 3 0 t [] []) = quo t := by rw [pj]; rfl
theorem pj_lst (its : List J) : pj (.mk 4 0 [] [] its) = 91 :: (pjs false true [] its ++ [93]) := by rw [pj]; rfl
theorem pj_obj (ks : List (List UInt8)) (its : List J) : pj (.mk 5 0 [] ks its) = 123 :: (pjs true true ks its ++ [125]) := by rw [pj]; rfl
theorem pj_null (n : Int) (t ks its) : pj (.mk 0 n t ks its) = [110, 117, 108, 108] := by rw [pj]; rfl
theorem pj_ff : pj (.mk 1 0 [] [] []) = [102, 97, 108, 115, 101] := by rw [pj]; rfl
theorem pj_tt : pj (.mk 1 1 [] [] []) = [116, 114, 117, 101] := by rw [pj]; rfl
theorem PHead.cons {j : J} (h : PHead j) : ∃ c s, pj j = c :: s ∧ blkC c = false ∧ (93 : UInt8) ≠ c ∧ (125 : UInt8) ≠ c := by
  cases h with
  | null => exact ⟨_, _, pj_null .., by decide⟩
  | ff => exact ⟨_, _, pj_ff, by decide⟩
  | tt => exact ⟨_, _, pj_tt, by decide⟩
  | num h =>
    obtain ⟨c, s, e, hc⟩ := dg_cons _ h
    exact ⟨c, s, (pj_num _).trans e, nmC_blk hc, fun e => (by subst e; cases hc), fun e => (by subst e; cases hc)⟩
  | txt h => exact ⟨_, _, pj_txt _, by decide⟩
  | lst => exact ⟨_, _, pj_lst _, by decide⟩
  | obj _ h => exact ⟨_, _, pj_obj _ _, by decide⟩
theorem iVal_cons (k : Nat) (c : UInt8) (s : List UInt8) (room : Int) (hc : blkC c = false) (h : 0 ≤ room - 1) : iVal (k + 1) ⟨c :: s, false, room⟩ = iValB k (c :: s) (room - 1) := by
  rw [iVal_go k _ rfl (by show ¬ room - 1 < 0; omega) (by show (skp (c :: s)).isEmpty = false; rw [skp_nb s hc]; rfl)]
  show iValB k (skp (c :: s)) (room - 1) = _
  rw [skp_nb s hc]

def RT (k : Nat) : Prop := ∀ (j : J) (d room : Int) (rest : List UInt8), 0 ≤ d → d + (k : Nat) = 12 → 0 ≤ room → (rightJ j d room).1 = true → NoNm rest → iVal k ⟨pj j ++ rest, false, room⟩ = (j, ⟨rest, false, (rightJ j d room).2⟩)
theorem pjs_one (o : Bool) (ks : List (List UInt8)) (y : J) (ys : List J) : pjs o false ks (y :: ys) = 44 :: (prt o (ks.headD []) y ++ pjs o false ks.tail ys) := by
  rw [pjs]; unfold prt; cases o <;> simp
theorem pjs_fst (o : Bool) (ks : List (List UInt8)) (y : J) (ys : List J) : pjs o true ks (y :: ys) = prt o (ks.headD []) y ++ pjs o false ks.tail ys := by
  rw [pjs]; unfold prt; cases o <;> simp
theorem prt_f (ks : List UInt8) (y : J) : prt false ks y = pj y := by unfold prt; simp
theorem noNm_cons {c : UInt8} (s : List UInt8) (h : nmC c = false) : NoNm (c :: s) := fun c' t e => by cases e; exact h
theorem noNm_pjs (o : Bool) (ks : List (List UInt8)) (xs : List J) (c : UInt8) (rest : List UInt8) (h : nmC c = false) : NoNm (pjs o false ks xs ++ c :: rest) := by
  cases xs with
  | nil => rw [pjs]; exact noNm_cons rest h
  | cons y ys => rw [pjs_one]; exact noNm_cons _ (by decide)
theorem rightJs_cons {x : J} {xs : List J} {d m : Int} (h : (rightJs (x :: xs) d m).1 = true) : (rightJ x d m).1 = true ∧ rightJs (x :: xs) d m = rightJs xs d (rightJ x d m).2 := by
  rw [rightJs] at h ⊢
  split at h
  · rename_i hc
    exact ⟨hc, by rw [if_pos hc]⟩
  · cases h
theorem rt_list {k : Nat} (IH : RT k) {d : Int} (hd : 0 ≤ d) (hk : d + (k : Nat) = 12) (rest : List UInt8) : ∀ (xs : List J) (x : J) (m : Int) (acc : List J) (n : Nat), 0 ≤ m → (rightJs (x :: xs) d m).1 = true → xs.length + 1 ≤ n →
    partsL [93] (listStep (iVal k)) n ⟨pj x ++ (pjs false false [] xs ++ 93 :: rest), false, m⟩ acc = (⟨rest, false, (rightJs (x :: xs) d m).2⟩, acc ++ x :: xs)
  | xs, x, m, acc, 0, hm, hr, hn => by omega
  | xs, x, m, acc, n + 1, hm, hr, hn => by
    obtain ⟨h1, h2⟩ := rightJs_cons hr
    rw [h2] at hr ⊢
    have hroom := rightJ_room x d m hm h1
    rw [partsL_on _ _ _ _ rfl]
    have e := IH x d m (pjs false false [] xs ++ 93 :: rest) hd hk hm h1 (noNm_pjs _ _ _ _ _ (by decide))
    have es : listStep (iVal k) ⟨pj x ++ (pjs false false [] xs ++ 93 :: rest), false, m⟩ acc = (⟨pjs false false [] xs ++ 93 :: rest, false, (rightJ x d m).2⟩, acc ++ [x]) := by
      unfold listStep; rw [e]
    rw [es]
    cases xs with
    | nil =>
      show (bif (RS.tk ⟨93 :: rest, false, _⟩ [93]).1 then _ else _) = _
      rw [pjs, List.nil_append, tk_yes _ _ (by decide)]
      simp only [cond_true, rightJs]
    | cons y ys =>
      rw [pjs_one, List.cons_append, prt_f, tk_no _ _ (by decide) (by decide)]
      simp only [cond_false]
      rw [want_yes _ _ (by decide), List.append_assoc]
      have := rt_list IH hd hk rest ys y (rightJ x d m).2 (acc ++ [x]) n hroom.1 hr (by simp at hn; omega)
      rw [show ([] : List (List UInt8)).tail = [] from rfl, this, List.append_assoc]
      rfl
end Go.Proofs.YtfncaghjfgnnhaaGreatDoor

namespace Go.Proofs.YtfncaghjfgnnhaaGreatDoor
open Go.RowKit
set_option maxRecDepth 100000

theorem kvGet_none : ∀ (m : List (List UInt8 × J)) (k : List UInt8), (∀ x ∈ m, x.1 ≠ k) → kvGet k m = none
  | [], k, _ => rfl
  | (k', j) :: m, k, h => by
    unfold kvGet
    have : (k == k') = false := beq_eq_false_iff_ne.2 (fun e => h (k', j) (by simp) e.symm)
    rw [this]
    exact kvGet_none m k (fun x hx => h x (by simp [hx]))
theorem kvPut_new : ∀ (m : List (List UInt8 × J)) (k : List UInt8) (j : J), (∀ x ∈ m, x.1 ≠ k) → kvPut k j m = m ++ [(k, j)]
  | [], k, j, _ => rfl
  | (k', j') :: m, k, j, h => by
    unfold kvPut
    have : (k == k') = false := beq_eq_false_iff_ne.2 (fun e => h (k', j') (by simp) e.symm)
    rw [this]
    simp only [Bool.false_eq_true, if_false]
    rw [kvPut_new m k j (fun x hx => h x (by simp [hx]))]
    rfl
theorem zip_key {K : List (List UInt8)} {L : List J} {k : List UInt8} (h : k ∉ K) : ∀ x ∈ K.zip L, x.1 ≠ k := fun _ hx e => h (e ▸ (List.of_mem_zip hx).1)
theorem kv_items : ∀ (ks : List (List UInt8)) (its : List J), ks.length = its.length → ks.Nodup → (ks.map fun k => (kvGet k (ks.zip its)).getD J.zero) = its
  | [], [], _, _ => rfl
  | [], _ :: _, h, _ => by simp at h
  | _ :: _, [], h, _ => by simp at h
  | k :: ks, j :: its, h, hn => by
    rw [List.nodup_cons] at hn
    have ih := kv_items ks its (by simpa using h) hn.2
    rw [List.map_cons, List.zip_cons_cons]
    congr 1
    · unfold kvGet; simp
    · conv => rhs; rw [← ih]
      refine List.map_congr_left fun k' hk' => ?_
      conv => lhs; unfold kvGet
      have : (k' == k) = false := beq_eq_false_iff_ne.2 (fun e => hn.1 (e ▸ hk'))
      rw [this]; rfl
theorem areK_pw : ∀ {ks : List (List UInt8)}, areK ks = true → ks.Pairwise (· < ·)
  | [], _ => .nil
  | [k], _ => by simp
  | k :: k' :: t, h => by
    rw [areK, Bool.and_eq_true, Bool.and_eq_true] at h
    have ih := areK_pw h.2
    have h1 : k < k' := by have := h.1.2; rw [bytesLess_eq, decide_eq_true_eq] at this; exact this
    refine List.pairwise_cons.2 ⟨fun x hx => ?_, ih⟩
    rcases List.mem_cons.1 hx with rfl | hx
    · exact h1
    · exact List.lt_trans h1 ((List.pairwise_cons.1 ih).1 x hx)
theorem areK_nodup {ks : List (List UInt8)} (h : areK ks = true) : ks.Nodup := by
  refine (areK_pw h).imp fun {a b} hab e => ?_
  subst e
  exact List.lt_irrefl a hab
theorem areK_srt {ks : List (List UInt8)} (h : areK ks = true) : srt ks = ks := by
  unfold srt
  refine List.mergeSort_of_pairwise ((areK_pw h).imp fun {a b} hab => ?_)
  rw [decide_eq_true_eq]
  exact List.le_of_lt hab
theorem prt_t (key : List UInt8) (x : J) (rest : List UInt8) : prt true key x ++ rest = 34 :: (escL key ++ 34 :: (58 :: (pj x ++ rest))) := by
  unfold prt quo; simp
theorem objStep_go {k : Nat} (IH : RT k) {d : Int} (hd : 0 ≤ d) (hk : d + (k : Nat) = 12) (key : List UInt8) (x : J) (m : Int) (s : List UInt8) (a : KM) (hp : plainT key = true) (hm : 0 ≤ m) (h1 : (rightJ x d m).1 = true) (hs : NoNm s) (hn : ∀ y ∈ a.m, y.1 ≠ key) :
    objStep (iVal k) ⟨prt true key x ++ s, false, m⟩ a = (⟨s, false, (rightJ x d m).2⟩, ⟨a.ks ++ [key], a.m ++ [(key, x)]⟩) := by
  unfold objStep
  rw [prt_t, want_yes _ _ (by decide)]
  simp only [txtE_esc _ _ hp]
  rw [want_yes _ _ (by decide)]
  rw [IH x d m s hd hk hm h1 hs]
  simp only [kvGet_none _ _ hn, kvPut_new _ _ _ hn, Option.isSome_none, Bool.or_false]
theorem rt_obj {k : Nat} (IH : RT k) {d : Int} (hd : 0 ≤ d) (hk : d + (k : Nat) = 12) (rest : List UInt8) : ∀ (xs : List J) (x : J) (key : List UInt8) (ks : List (List UInt8)) (m : Int) (K : List (List UInt8)) (L : List J) (n : Nat), 0 ≤ m → (rightJs (x :: xs) d m).1 = true → xs.length + 1 ≤ n →
    ks.length = xs.length → K.length = L.length → (K ++ key :: ks).Nodup → (∀ s ∈ key :: ks, plainT s = true) →
    partsL [125] (objStep (iVal k)) n ⟨prt true key x ++ (pjs true false ks xs ++ 125 :: rest), false, m⟩ ⟨K, K.zip L⟩ = (⟨rest, false, (rightJs (x :: xs) d m).2⟩, ⟨K ++ key :: ks, (K ++ key :: ks).zip (L ++ x :: xs)⟩)
  | xs, x, key, ks, m, K, L, 0, hm, hr, hn, _, _, _, _ => by omega
  | xs, x, key, ks, m, K, L, n + 1, hm, hr, hn, hl, hKL, hnd, hp => by
    obtain ⟨h1, h2⟩ := rightJs_cons hr
    rw [h2] at hr ⊢
    have hroom := rightJ_room x d m hm h1
    rw [partsL_on _ _ _ _ rfl]
    have hK : key ∉ K := by
      rw [List.nodup_append] at hnd
      exact fun h => hnd.2.2 key h key (by simp) rfl
    have es := objStep_go IH hd hk key x m (pjs true false ks xs ++ 125 :: rest) ⟨K, K.zip L⟩ (hp key (by simp)) hm h1 (noNm_pjs _ _ _ _ _ (by decide)) (zip_key hK)
    rw [es]
    have ez : K.zip L ++ [(key, x)] = (K ++ [key]).zip (L ++ [x]) := by rw [List.zip_append hKL]; rfl
    cases xs with
    | nil =>
      have : ks = [] := List.eq_nil_of_length_eq_zero hl
      subst this
      show (bif (RS.tk ⟨pjs true false [] [] ++ 125 :: rest, false, _⟩ [125]).1 then _ else _) = _
      rw [pjs, List.nil_append, tk_yes _ _ (by decide)]
      simp only [cond_true, rightJs, ez]
    | cons y ys =>
      cases ks with
      | nil => simp at hl
      | cons key' ks =>
      rw [pjs_one, List.cons_append, tk_no _ _ (by decide) (by decide)]
      simp only [cond_false, List.headD_cons, List.tail_cons]
      rw [want_yes _ _ (by decide), List.append_assoc, ez]
      have e1 : K ++ key :: key' :: ks = (K ++ [key]) ++ key' :: ks := by simp
      have e2 : L ++ x :: y :: ys = (L ++ [x]) ++ y :: ys := by simp
      rw [e1, e2]
      rw [e1] at hnd
      exact rt_obj IH hd hk rest ys y key' ks (rightJ x d m).2 (K ++ [key]) (L ++ [x]) n hroom.1 hr (by simp at hn; omega) (by simpa using hl) (by simp [hKL]) hnd (fun s hs => hp s (by simp at hs ⊢; exact .inr hs))
theorem pjs_ge (o : Bool) : ∀ (xs : List J) (a : Bool) (ks : List (List UInt8)), xs.length ≤ (pjs o a ks xs).length + 1
  | [], a, ks => by simp
  | x :: xs, a, ks => by
    have : ∀ (xs : List J) (ks : List (List UInt8)), xs.length ≤ (pjs o false ks xs).length := by
      intro xs
      induction xs with
      | nil => intro ks; simp
      | cons y ys ih =>
        intro ks
        have := ih ks.tail
        rw [pjs_one]; simp only [List.length_cons, List.length_append]; omega
    have h := this xs ks.tail
    rw [pjs]
    simp only [List.length_cons, List.length_append]; omega
end Go.Proofs.YtfncaghjfgnnhaaGreatDoor

namespace Go.Proofs.YtfncaghjfgnnhaaGreatDoor
open Go.RowKit
set_option maxRecDepth 100000

theorem rightJ_in {j : J} {d room : Int} (h : (rightJ j d room).1 = true) : 0 ≤ room - 1 ∧ d < 12 ∧ partJ j = true ∧ rightJ j d room = rightJs j.items (d + 1) (room - 1) := by
  rw [rightJ_eq] at h ⊢
  split at h
  · cases h
  · rename_i hc
    rw [if_neg hc]
    simp only [not_or, Bool.not_eq_false] at hc
    exact ⟨by omega, by omega, hc.2.2, rfl⟩
theorem rt : ∀ k, RT k
  | 0, j, d, room, rest, hd, hk, hr, h, hn => by
    have := rightJ_in h
    omega
  | k + 1, j, d, room, rest, hd, hk, hr, h, hn => by
    have IH := rt k
    obtain ⟨h1, h2, h3, h4⟩ := rightJ_in h
    obtain ⟨hz, hp⟩ := part_head h3
    obtain ⟨c, s, ec, hc, _⟩ := hp.cons
    have e0 : iVal (k + 1) ⟨pj j ++ rest, false, room⟩ = iValB k (pj j ++ rest) (room - 1) := by
      rw [ec, List.cons_append]
      exact iVal_cons k c _ room hc h1
    rw [e0, h4]
    rw [h4] at h
    cases hp with
    | null =>
      rcases hz with hz | hz
      · rw [hz, show pj J.zero = [110, 117, 108, 108] from pj_null ..]
        show _ = (J.zero, RS.mk rest false (rightJs [] (d + 1) (room - 1)).2)
        rw [rightJs]; rfl
      · exact absurd rfl hz
    | ff => rw [pj_ff]; show _ = (J.mk 1 0 [] [] [], RS.mk rest false (rightJs [] (d + 1) (room - 1)).2); rw [rightJs]; rfl
    | tt => rw [pj_tt]; show _ = (J.mk 1 1 [] [] [], RS.mk rest false (rightJs [] (d + 1) (room - 1)).2); rw [rightJs]; rfl
    | @num n hb =>
      show _ = (J.mk 2 n [] [] [], RS.mk rest false (rightJs [] (d + 1) (room - 1)).2)
      rw [rightJs, pj_num]
      obtain ⟨c, s, e, hcn⟩ := dg_cons n hb
      obtain ⟨t1, t2⟩ := takeW_app (p := nmC) (dg n) rest (dgOK n hb).nm hn
      have e1 : iValB k (dg n ++ rest) (room - 1) = (nmJ (dg n ++ rest), ⟨(dg n ++ rest).dropWhile nmC, nmB false (dg n ++ rest), room - 1⟩) := by
        rw [e, List.cons_append]; exact iValB_num k c _ _ hcn
      rw [e1]
      unfold nmJ nmB
      rw [t1, t2, rdN_dg n hb]
      have : inB n (-1000000000) 1000000000 = true := by unfold inB; simp; omega
      simp [this]
    | @txt t ht =>
      show _ = (J.mk 3 0 t [] [], RS.mk rest false (rightJs [] (d + 1) (room - 1)).2)
      rw [rightJs, pj_txt]
      have : quo t ++ rest = 34 :: (escL t ++ 34 :: rest) := by unfold quo; simp
      rw [this, iValB_txt, txtE_esc _ _ ht]
    | @lst its =>
      show _ = (J.mk 4 0 [] [] its, RS.mk rest false (rightJs its (d + 1) (room - 1)).2)
      rw [pj_lst, List.cons_append, iValB_lst]
      cases its with
      | nil =>
        rw [pjs, List.nil_append, List.singleton_append]
        unfold partsE
        rw [tk_yes _ _ (by decide)]
        simp only [cond_true, rightJs]
      | cons x xs =>
        have hg := pjs_ge false xs false []
        have ex : pjs false true [] (x :: xs) ++ [93] ++ rest = pj x ++ (pjs false false [] xs ++ 93 :: rest) := by
          rw [pjs_fst, prt_f]; simp
        rw [ex]
        obtain ⟨q1, q2⟩ := rightJs_cons h
        obtain ⟨_, _, q3, _⟩ := rightJ_in q1
        obtain ⟨c, s, ec, hc, hn93, _⟩ := (part_head q3).2.cons
        unfold partsE
        have et : (RS.mk (pj x ++ (pjs false false [] xs ++ 93 :: rest)) false (room - 1)).tk [93] = (false, ⟨pj x ++ (pjs false false [] xs ++ 93 :: rest), false, room - 1⟩) := by
          rw [ec, List.cons_append]; exact tk_no _ _ hc hn93
        rw [et]
        simp only [cond_false]
        have hl := rt_list IH (d := d + 1) (by omega) (by omega) rest xs x (room - 1) [] ((pj x ++ (pjs false false [] xs ++ 93 :: rest)).length + 2) h1 h (by simp only [List.length_append, List.length_cons]; omega)
        rw [hl]; rfl
    | @obj ks its hl hk2 =>
      show _ = (J.mk 5 0 [] ks its, RS.mk rest false (rightJs its (d + 1) (room - 1)).2)
      rw [pj_obj, List.cons_append, iValB_obj]
      cases its with
      | nil =>
        obtain rfl : ks = [] := List.eq_nil_of_length_eq_zero hl
        rw [pjs, List.nil_append, List.singleton_append]
        unfold partsE
        rw [tk_yes _ _ (by decide)]
        simp only [cond_true, rightJs]
        unfold objJ
        simp [srt]
      | cons x xs =>
        cases ks with
        | nil => simp at hl
        | cons key ks =>
        have hg := pjs_ge true xs false ks
        have ex : pjs true true (key :: ks) (x :: xs) ++ [125] ++ rest = prt true key x ++ (pjs true false ks xs ++ 125 :: rest) := by
          rw [pjs_fst]; simp
        rw [ex]
        unfold partsE
        have et : (RS.mk (prt true key x ++ (pjs true false ks xs ++ 125 :: rest)) false (room - 1)).tk [125] = (false, ⟨prt true key x ++ (pjs true false ks xs ++ 125 :: rest), false, room - 1⟩) := by
          rw [prt_t]; exact tk_no _ _ (by decide) (by decide)
        rw [et]
        simp only [cond_false]
        have hq := rt_obj IH (d := d + 1) (by omega) (by omega) rest xs x key ks (room - 1) [] [] ((prt true key x ++ (pjs true false ks xs ++ 125 :: rest)).length + 2) h1 h (by simp only [List.length_append, List.length_cons]; omega) (by simpa using hl) rfl (by simpa using areK_nodup hk2) (areK_mem hk2)
        rw [show (⟨[], []⟩ : KM) = ⟨[], ([] : List (List UInt8)).zip ([] : List J)⟩ from rfl, hq]
        simp only [List.nil_append]
        congr 1
        unfold objJ
        simp only [areK_srt hk2]
        rw [kv_items _ _ (by simpa using hl) (areK_nodup hk2)]
end Go.Proofs.YtfncaghjfgnnhaaGreatDoor

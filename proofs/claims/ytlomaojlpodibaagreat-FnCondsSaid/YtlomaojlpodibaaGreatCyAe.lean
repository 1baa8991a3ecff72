/-
  A transaction under way: names made numbers.
  A transaction under way: a row inserted.
  A transaction under way: rows selected.
  A transaction under way: a wait, rows changed.
  A transaction under way: rows changed.
  A transaction under way: one operation.
  A whole transaction.
  Rows that are right stay right: cells set, mutated (plain laws).
  Stores under way: what an operation keeps (plain laws).
  What an operation that is drawn keeps (plain laws).
  What a transaction that is drawn keeps (plain laws).
  The source of choices that some bytes make.
  Stores that are drawn.
  From a walk's contract (no block of ours is written) to a contract of a call.
  The program's order of atoms.
  The program's AtomOK, DatumOK.
  The program's columns by their names; codes of conditions.
  The program's conditions: codes of them all; when they are right.
  The program's conditions: when they are right.
  The program's sets: alike, with, less.
  The program's stores: when they fit.
  Calls whose arguments are all known: reckoned whole.
  The program's stores: a store that fits does.
-/
import Derived.Test.YtlomaojlpodibaaGreatCyAd
namespace Go.Proofs.YtlomaojlpodibaaGreat
open Go.RowKit
set_option maxRecDepth 100000
section
variable (S : aS) (x : aM) (ops : List Op') (ids : List Int) (ow : List (List UInt8))
noncomputable def Eu : cP := fun f vs hp =>
 bif Nat.beq f oL then (match vs with | [.ptr 0 0, .str t] => some ⟨gJ ops ids t, fun y => ⟨.int .i64 y, [wB S x ops ids ow], []⟩⟩ | _ => none) else rn f vs hp
noncomputable def AL : Env := { P := Tryz.prog, vw := rV, res := Eu S x ops ids ow }
def M8 (c : List UInt8) (v : aU) : Option bM := some ([.str c, ab ak v, .dsl 0 true []], kC)
def uh (l out : List Sx) (i : Int) (c : List UInt8) (v : aU) (k : Int) : St := ⟨ai 63 [(0, .ptr 0 0), (1, ab aT l), (6, .sl 1 0 out.length false), (7, .int .i64 i), (8, .ptr 2 0), (9, .int .i64 k)], [wB S x ops ids ow, some ([.aJ (ah aT out)], kC), M8 c v], []⟩
def MZ (l out : List Sx) (i : Int) (c : List UInt8) (v : aU) : St := ⟨ai 63 [(0, .ptr 0 0), (1, ab aT l), (6, .sl 1 0 out.length false), (7, .int .i64 i), (8, .ptr 2 0)], [wB S x ops ids ow, some ([.aJ (ah aT out)], kC), M8 c v], []⟩
def rJ (l out : List Sx) (i : Int) : St := ⟨ai 63 [(0, .ptr 0 0), (1, ab aT l), (6, .sl 1 0 out.length false), (7, .int .i64 i)], [wB S x ops ids ow, some ([.aJ (ah aT out)], kC)], []⟩
def zR (out : List Sx) : St := ⟨ai 63 [(4, ab aT out), (5, .int .i64 13)], [wB S x ops ids ow], []⟩
def zX (out : List Sx) : St := ⟨ai 63 [(6, .sl 1 0 out.length false)], [wB S x ops ids ow, some ([.aJ (ah aT out)], kC)], []⟩
def Xa : Ex -> Kp := fun ex => match ex with
 | .normal => { keep := [0, 1, 6, 7, 8, 9] }
 | .ret => { keep := [4, 5], perm := some ([0], []) }
 | _ => { keep := [0, 1, 6, 7, 8] }
def W9 : Ex -> Kp := fun ex => match ex with
 | .normal => { keep := [0, 1, 6, 7], ua := true }
 | .ret => { keep := [4, 5], perm := some ([0], []) }
 | _ => { keep := [6] }
theorem NO (S : aS) (x : aM) (ops : List Op') (ids : List Int) (ow : List (List UInt8)) (l out : List Sx) (i : Int) (c : List UInt8) (v : aU) (k : Int) : bx (AL S x ops ids ow) 1 Xa (lp Tryz.prog iw 2) (uh S x ops ids ow l out i c v k) = (
 let q := List.getD (ae aT (ah aT l)) i.toNat (Sx.mk [] [] []);
 let q1 : Hp := [some ([ab aq S, ab aI x.ar, aa x.next, ab aY ops, ab aN ids, ab aW ow], 183)];
 let q2 : List Prop := [0 <= i /\ i < (↑l.length : Int), List.take 3 (List.drop (i.toNat * 3) (ah aT l)) = [.str q.aG, ab ak q.val, ab aW q.names]];
 let q5 := ah aW q.names;
 let q3 := List.getD (ae aW q5) k.toNat [];
 let q4 := (↑q.names.length : Int); .ag q2 (bif decide (k < q4) then .ag q2 (.ag [0 <= k /\ k < q4, List.take 1 (List.drop (k.toNat * 1) q5) = [.str q3]] (.bind (gJ ops ids q3) fun y0 => .ag [ao Tryz.prog 255 [.ptr 0 0, .str q3]
  q1 (aj.mk (aa y0) q1 [])] (bif y0 == 0 then .done (Ex.ret, St.mk (ai 63 [(4, ab aT out), (5, aa 13)]) q1 []) else .bind (dN (ae ak (ah ak v)) (At.mk (4 : Int) y0 [])) fun y1 => .ag [ao Tryz.prog 186 [ab
  ak v, .agg [aa 4, aa y0, .str []]] [] (aj.mk (ab ak y1) [] [])] (.done (Ex.normal, St.mk (ai 63 [(0, .ptr 0 0), (1, ab aT l), (6, .sl 1 0 out.length false), (7, aa i), (8, .ptr 2 0), (9, aa (IntKind.i64.wrap (k +
  1)))]) [some ([ab aq S, ab aI x.ar, aa x.next, ab aY ops, ab aN ids, ab aW ow], 183), some ([.aJ (ah aT out)], 189), some ([.str c, ab ak y1, .dsl 0 true []], 189)] []))))) else .done (Ex.exit 2,
  St.mk (ai 63 [(0, .ptr 0 0), (1, ab aT l), (6, .sl 1 0 out.length false), (7, aa i), (8, .ptr 2 0)]) [some ([ab aq S, ab aI x.ar, aa x.next, ab aY ops, ab aN ids, ab aW ow], 183), some ([.aJ (ah
  aT out)], 189), some ([.str c, ab ak v, .dsl 0 true []], 189)] [])) : T _) := (T.force_eq _).symm.trans (by kernel_rfl)
noncomputable def Vv (l : List Sx) : Nat -> St -> Option bT := fun id s => match id, s.tm.get 7, s.hp with
 | 2, .int _ i, [_, some ([.aJ os], _), some ([.str c, .dsl _ _ vs, _], _)] => some ⟨setN ops ids (l.getD i.toNat .zero).names (ae ak vs), fun y => .two { keep := [0, 1, 6, 7, 8, 9] } (uh S x ops ids ow l (ae aT os) i c (ae ak vs) 0) y.isSome (.exit 2) (MZ S x ops ids ow l (ae aT os) i c (y.getD [])) .ret (zR S x ops ids ow (ae aT os))⟩
 | 0, _, _ => some ⟨setsL ops ids l [], fun y => .two { keep := [0, 1, 6, 7], ic := [6] } (rJ S x ops ids ow l [] 0) (decide (y.2 = 0)) (.exit 0) (zX S x ops ids ow y.1) .ret (zR S x ops ids ow y.1)⟩
 | _, _, _ => none
noncomputable def EZ (l : List Sx) : Env := { P := Tryz.prog, vw := rV, res := Eu S x ops ids ow, ls := Vv S x ops ids ow l }
theorem NN (S : aS) (x : aM) (ops : List Op') (ids : List Int) (ow : List (List UInt8)) (l out : List Sx) (i : Int) : bx (EZ S x ops ids ow l) 1 W9 (lp Tryz.prog iw 0) (rJ S x ops ids ow l out i) = (
 let q := List.getD (ae aT (ah aT l)) i.toNat (Sx.mk [] [] []);
 let q8 := ah aT out;
 let q2 := ae aT q8;
 let q9 := ah aT q2;
 let q7 := ae ak (ah ak q.val);
 let q1 : Hp := [some ([ab aq S, ab aI x.ar, aa x.next, ab aY ops, ab aN ids, ab aW ow], 183), some ([.aJ q9], 189), some ([.str q.aG, ab ak q7, .dsl 0 true []], 189)];
 let q3 := ai 63 [(0, .ptr 0 0), (1, ab aT l), (6, .sl 1 0 q2.length false), (7, aa i), (8, .ptr 2 0), (9, aa 0)];
 let q4 : List Prop := [0 <= i /\ i < (↑l.length : Int), List.take 3 (List.drop (i.toNat * 3) (ah aT l)) = [.str q.aG, ab ak q.val, ab aW q.names]];
 let q5 : Hp := [some ([ab aq S, ab aI x.ar, aa x.next, ab aY ops, ab aN ids, ab aW ow], 183)];
 let q6 := ai 63 [(4, ab aT q2), (5, aa 13)]; bif decide (i < (↑l.length : Int)) then .ag q4 (.ag q4 (.bind (setN ops ids (Sx.names (List.getD l i.toNat (Sx.mk [] [] []))) q7) fun y0 => .ag [St.mk (ai 63 [(0, .ptr 0 0), (1,
  ab aT l), (6, .sl 1 0 out.length false), (7, aa i), (8, .ptr 2 0), (9, aa 0)]) [some ([ab aq S, ab aI x.ar, aa x.next, ab aY ops, ab aN ids, ab aW ow], 183), some ([.aJ q8], 189), some ([.str q.aG, ab
  ak q.val, .dsl 0 true []], 189)] [] = St.mk q3 q1 []] (bif Option.isSome y0 then .ag [aV Tryz.prog 1 (blk Tryz.prog iw 2) (St.mk q3 q1 []) (Ex.exit 2) (St.mk (ai 63 [(0, .ptr 0 0), (1, ab aT l), (6, .sl 1 0 q2.length
  false), (7, aa i), (8, .ptr 2 0)]) [some ([ab aq S, ab aI x.ar, aa x.next, ab aY ops, ab aN ids, ab aW ow], 183), some ([.aJ q9], 189), some ([.str q.aG, ab ak (Option.getD y0 []), .dsl 0 true []],
  189)] [])] (.ag [0 = 0, q9.length = q2.length * 3, q2.length + 1 <= 9223372036854775807, (q2.length + 1) * 64 <= 140737488355328] (.done (Ex.normal, St.mk (ai 63 [(0, .ptr 0 0), (1, ab aT l), (6, .sl 1 0 (q2.length + 1) false),
  (7, aa (IntKind.i64.wrap (i + 1)))]) [some ([ab aq S, ab aI x.ar, aa x.next, ab aY ops, ab aN ids, ab aW ow], 183), some ([.aJ (ah aT q2 ++ [.str q.aG, ab ak (Option.getD y0 []), .dsl 0 false
  []])], 189)] []))) else .ag [aV Tryz.prog 1 (blk Tryz.prog iw 2) (St.mk q3 q1 []) Ex.ret (St.mk q6 q5 [])] (.done (Ex.ret, St.mk q6 q5 []))))) else .done (Ex.exit 0, St.mk (ai 63 [(6, .sl 1 0 out.length false)]) [some ([ab
  aq S, ab aI x.ar, aa x.next, ab aY ops, ab aN ids, ab aW ow], 183), some ([.aJ q8], 189)] []) : T _) := by kernel_rfl
theorem zT (S : aS) (x : aM) (ops : List Op') (ids : List Int) (ow : List (List UInt8)) (l : List Sx) : fnT (EZ S x ops ids ow l) 0 iw [.ptr 0 0, ab aT l] [wB S x ops ids ow] = (
 let q : Hp := [some ([ab aq S, ab aI x.ar, aa x.next, ab aY ops, ab aN ids, ab aW ow], 183), some ([.aJ []], 189)];
 let q1 := ai 63 [(0, .ptr 0 0), (1, ab aT l), (6, .sl 1 0 0 false), (7, aa 0)];
 let q2 : Hp := [some ([ab aq S, ab aI x.ar, aa x.next, ab aY ops, ab aN ids, ab aW ow], 183)]; .bind (setsL ops ids l []) fun y0 => .ag [St.mk q1 q [] = St.mk q1 q []] (bif decide (y0.2 = (0 : Int)) then .ag
  [aV Tryz.prog 1 (blk Tryz.prog iw 0) (St.mk q1 q []) (Ex.exit 0) (St.mk (ai 63 [(6, .sl 1 0 y0.1.length false)]) [some ([ab aq S, ab aI x.ar, aa x.next, ab aY ops, ab aN ids, ab aW ow], 183), some
  ([.aJ (ah aT y0.1)], 189)] [])] (.done (aj.mk (.tup [ab aT y0.1, aa 0]) q2 [])) else .ag [aV Tryz.prog 1 (blk Tryz.prog iw 0) (St.mk q1 q []) Ex.ret (St.mk (ai 63 [(4, ab aT y0.1), (5, aa 13)]) q2 [])]
  (.done (aj.mk (.tup [ab aT y0.1, aa 13]) q2 []))) : T _) := (T.force_eq _).symm.trans (by kernel_rfl)
variable {S x ops ids ow}
theorem NM (hn : ops.length <= 1048576) (hid : ids.length = ops.length) (l out : List Sx) (i : Nat) (hi : i < l.length) (hl : l.length <= 1048576) (c : List UInt8) (eG : (l.getD i .zero).names.length <= 1000) : ∀ (m k : Nat) (v : aU), k + m = (l.getD i .zero).names.length -> v.length <= 1000 + k ->
  (∀ v', setN ops ids ((l.getD i .zero).names.drop k) v = some v' -> a8 Tryz.prog 1 (lp Tryz.prog iw 2) (uh S x ops ids ow l out i c v k) (.exit 2) (MZ S x ops ids ow l out i c v')) /\
  (setN ops ids ((l.getD i .zero).names.drop k) v = none -> a8 Tryz.prog 1 (lp Tryz.prog iw 2) (uh S x ops ids ow l out i c v k) .ret (zR S x ops ids ow out))
 | 0, k, v, hk, hv => by
  have hk : k = (l.getD i .zero).names.length := hk
  have aL := dX.at l .zero i 3 hi rfl
  subst hk
  rw [List.drop_length]
  refine ⟨fun v' h => ?_, fun h => by simp [setN] at h⟩
  have h' : v = v' := by simpa [setN] using h
  subst h'
  refine bl (E := AL S x ops ids ow) follows named (NO S x ops ids ow l out i c v ((l.getD i .zero).names.length : Nat)) ?_
  simp only [Sx.zero] at *
  simp only [az, T.WP, All, aB, aC, aA, aD, aE, aF, dX.ae, dM.ae, Int.toNat_natCast]
  exact ⟨⟨aK, aL⟩, fun h => af, fun _ => ⟨rfl, rfl⟩⟩
 | m + 1, k, v, hk, hv => by
  have aL := dX.at l .zero i 3 hi rfl
  have pd : k < (l.getD i .zero).names.length := af
  have cA := dM.at (l.getD i .zero).names [] k 1 pd rfl
  have w1 : IntKind.i64.wrap ((k : Int) + 1) = ((k + 1 : Nat) : Int) := bE af
  have kn := We S x ops ids ow ((l.getD i .zero).names.getD k []) hn hid
  have hp := oA v ⟨4, gJ ops ids ((l.getD i .zero).names.getD k []), []⟩
  have ih := NM hn hid l out i hi hl c eG m (k + 1) (dN v ⟨4, gJ ops ids ((l.getD i .zero).names.getD k []), []⟩) af af
  rw [gh [] pd, setN]
  have key : ∀ {ex : Ex} {s' : St}, ((gJ ops ids ((l.getD i .zero).names.getD k []) == 0) = true -> Ex.ret = ex /\ zR S x ops ids ow out = s') -> ((gJ ops ids ((l.getD i .zero).names.getD k []) == 0) = false -> a8 Tryz.prog 1 (lp Tryz.prog iw 2) (uh S x ops ids ow l out i c (dN v ⟨4, gJ ops ids ((l.getD i .zero).names.getD k []), []⟩) ((k + 1 : Nat) : Int)) ex s') -> a8 Tryz.prog 1 (lp Tryz.prog iw 2) (uh S x ops ids ow l out i c v k) ex s' := by
   intro ex s' h1 h2
   refine bl (E := AL S x ops ids ow) follows named (NO S x ops ids ow l out i c v (k : Nat)) ?_
   simp only [Sx.zero] at *
   simp only [az, T.WP, All, aB, aC, aA, aD, aE, aF, w1, dX.ae, dM.ae, bq.ae, Int.toNat_natCast]
   refine ⟨⟨aK, aL⟩, fun _ => ⟨⟨aK, aL⟩, ⟨aK, cA⟩, ?_⟩, fun h => af⟩
   rintro y rfl
   refine ⟨kn, fun h => h1 (by simpa using h), fun h => ?_⟩
   rintro z rfl
   exact ⟨zJ v _ af, h2 (by simpa using h)⟩
  generalize gJ ops ids ((l.getD i .zero).names.getD k []) = w at *
  cases hw : w == 0
  ·simp only [cond_false]
   exact ⟨fun v' h => key (fun h => by rw [hw] at h; cases h) (fun _ => ih.1 v' h), fun h => key (fun h => by rw [hw] at h; cases h) (fun _ => ih.2 h)⟩
  ·simp only [cond_true]
   exact ⟨(fun v' h => by cases h), fun _ => key (fun _ => ⟨rfl, rfl⟩) (fun h => by rw [hw] at h; cases h)⟩
structure Bj (s : Sx) : Prop where
 v : s.val.length <= 100
 n : s.names.length <= 100
theorem NL (hn : ops.length <= 1048576) (hid : ids.length = ops.length) (l : List Sx) (hs : ∀ s ∈ l, Bj s) (hl : l.length <= 1048576) : ∀ (m i : Nat) (out : List Sx), i + m = l.length -> out.length = i ->
  ((setsL ops ids (l.drop i) out).2 = 0 -> a8 Tryz.prog 1 (lp Tryz.prog iw 0) (rJ S x ops ids ow l out i) (.exit 0) (zX S x ops ids ow (setsL ops ids (l.drop i) out).1)) /\
  (¬ (setsL ops ids (l.drop i) out).2 = 0 -> a8 Tryz.prog 1 (lp Tryz.prog iw 0) (rJ S x ops ids ow l out i) .ret (zR S x ops ids ow (setsL ops ids (l.drop i) out).1))
 | 0, i, out, hi, ho => by
  have hi : i = l.length := hi
  subst hi
  rw [List.drop_length]
  refine ⟨fun _ => ?_, fun h => absurd rfl h⟩
  refine bl (E := EZ S x ops ids ow l) follows named (NN S x ops ids ow l out (l.length : Nat)) ?_
  simp only [az, T.WP, All, aB, aC, aA]
  exact ⟨fun h => af, fun _ => ⟨rfl, rfl⟩⟩
 | m + 1, i, out, hi, ho => by
  have bH : i < l.length := af
  have aL := dX.at l .zero i 3 bH rfl
  have Jg := hs _ (bP .zero bH)
  have Je := Jg.n
  have hsv := Jg.v
  have w1 : IntKind.i64.wrap ((i : Int) + 1) = ((i + 1 : Nat) : Int) := bE af
  have h2 := NM (S := S) (x := x) (ow := ow) hn hid l out i bH hl (l.getD i .zero).aG af (l.getD i .zero).names.length 0 (l.getD i .zero).val af af
  rw [List.drop_zero] at h2
  have ih := fun v => NL hn hid l hs hl m (i + 1) (out ++ [⟨(l.getD i .zero).aG, v, []⟩]) af (by rw [List.length_append, List.length_singleton]; omega)
  have key : ∀ {ex : Ex} {s' : St}, (∀ v, setN ops ids (l.getD i .zero).names (l.getD i .zero).val = some v -> a8 Tryz.prog 1 (lp Tryz.prog iw 0) (rJ S x ops ids ow l (out ++ [⟨(l.getD i .zero).aG, v, []⟩]) ((i + 1 : Nat) : Int)) ex s') -> (setN ops ids (l.getD i .zero).names (l.getD i .zero).val = none -> Ex.ret = ex /\ zR S x ops ids ow out = s') -> a8 Tryz.prog 1 (lp Tryz.prog iw 0) (rJ S x ops ids ow l out i) ex s' := by
   intro ex s' k1 k2
   refine bl (E := EZ S x ops ids ow l) follows named (NN S x ops ids ow l out (i : Nat)) ?_
   simp only [Sx.zero] at *
   simp only [az, T.WP, All, aB, aC, aA, w1, dX.ae, bq.ae, Int.toNat_natCast, dX.length]
   refine ⟨fun _ => ⟨⟨aK, aL⟩, ⟨aK, aL⟩, ?_⟩, fun h => af⟩
   rintro y e
   rw [<- e] at h2 k1 k2
   refine ⟨bn, fun hy => ?_, fun hy => ?_⟩
   ·obtain ⟨v, rfl⟩ := Option.isSome_iff_exists.1 hy
    have k1 := k1 v rfl
    refine ⟨.bg (h2.1 v rfl), aK, ?_⟩
    simp only [rJ, dU, aT, ab, List.length_append, List.length_singleton] at k1
    exact k1
   ·have Tq : y = none := by simpa using hy
    subst Tq
    exact ⟨.bg (h2.2 rfl), k2 rfl⟩
  rw [gh .zero bH, setsL]
  cases hz : setN ops ids (l.getD i .zero).names (l.getD i .zero).val with
  | none =>
   dsimp only
   exact ⟨(fun h => by cases h), fun _ => key (fun v h => by rw [hz] at h; cases h) (fun _ => ⟨rfl, rfl⟩)⟩
  | some v =>
   dsimp only
   have e : ∀ v', setN ops ids (l.getD i .zero).names (l.getD i .zero).val = some v' -> v' = v := fun v' h => by rw [hz] at h; exact (Option.some.inj h).symm
   exact ⟨fun h => key (fun v' hv => by rw [e v' hv]; exact (ih v).1 h) (fun h => by rw [hz] at h; cases h), fun h => key (fun v' hv => by rw [e v' hv]; exact (ih v).2 h) (fun h => by rw [hz] at h; cases h)⟩
theorem ab1 (hn : ops.length <= 1048576) (hid : ids.length = ops.length) (l : List Sx) (hs : ∀ s ∈ l, Bj s) (hl : l.length <= 1048576) :
  ao Tryz.prog iw [.ptr 0 0, ab aT l] [wB S x ops ids ow] ⟨.tup [ab aT (gy ops ids l).1, .int .i64 (gy ops ids l).2], [wB S x ops ids ow], []⟩ := by
 have h := NL (S := S) (x := x) (ow := ow) hn hid l hs hl l.length 0 [] af rfl
 rw [List.drop_zero] at h
 unfold gy
 have hc : ∀ (l out : List Sx), (setsL ops ids l out).2 = 0 \/ (setsL ops ids l out).2 = 13 := by
  intro l
  induction l with
  | nil => exact fun _ => .inl rfl
  | cons a l ih =>
   intro out
   rw [setsL]
   cases setN ops ids a.names a.val with
   | none => exact .inr rfl
   | some v => exact ih _
 have hc := hc l []
 refine bh (E := EZ S x ops ids ow l) follows named (zT S x ops ids ow l) (by simp) ?_
 simp only [az, T.WP, All, aB, aC, aA]
 rintro y e
 rw [<- e] at h hc ⊢
 refine ⟨bn, fun e => ⟨.bg (h.1 e), ?_⟩, fun e => ⟨.bg (h.2 e), ?_⟩⟩
 ·rw [e]; exact aQ
 ·rw [hc.resolve_left e]; exact aQ
end
abbrev ni : Nat := 224
abbrev fg : Nat := 185
def kD : List V := [.int .i64 0, .int .i64 0, .int .i64 0, .dsl 0 true [], .dsl 0 true []]
def iv (c : Int) : dB := ⟨c, 0, 0, [], []⟩
section
variable (S : aS) (x : aM) (ops : List Op') (ids : List Int) (ow : List (List UInt8))
noncomputable def tR : cP := fun f vs hp =>
 bif Nat.beq f iw then (match vs with | [.ptr 0 0, .dsl _ _ qs] => some ⟨gy ops ids (ae aT qs), fun y => ⟨.tup [ab aT y.1, .int .i64 y.2], [wB S x ops ids ow], []⟩⟩ | _ => none) else
 bif Nat.beq f sP then (match vs with | [.agg [.str tn, .dsl _ _ cc, .dsl _ _ uu, .bool r], .int _ d] => some ⟨gi (bw tn cc uu r) d, fun y => ⟨.agg (av y), [], []⟩⟩ | _ => none) else
 bif Nat.beq f mr then (match vs with | [.agg [.str tn, .dsl _ _ cc, .dsl _ _ uu, .bool r], .agg [.int _ d, .dsl _ _ cs], .dsl _ _ qs] => some ⟨setRL (bw tn cc uu r) (ae aT qs) ⟨d, ae a7 cs⟩, fun y => ⟨.tup [.agg (av y.1), .int .i64 y.2], [], []⟩⟩ | _ => none) else
 bif Nat.beq f mq then (match vs with | [.agg [.str tn, .dsl _ _ cc, .dsl _ _ uu, .bool r], .agg [.int _ d, .dsl _ _ cs], .dsl _ _ qs] => some ⟨mutRW (bw tn cc uu r) (ae b8 qs) ⟨d, ae a7 cs⟩, fun y => ⟨.tup [.agg (av y.1), .int .i64 y.2], [], []⟩⟩ | _ => none) else
 bif Nat.beq f sV then (match vs with | [.agg [.str tn, .dsl _ _ cc, .dsl _ _ uu, .bool r], .agg [.int _ d, .dsl _ _ cs], .dsl _ _ ns] => some ⟨vZ (bw tn cc uu r) ⟨d, ae a7 cs⟩ (ae aW ns), fun y => ⟨.agg (av y), [], []⟩⟩ | _ => none) else
 bif Nat.beq f sX then (match vs with | [.agg [.dsl _ _ ts, .int _ nx], .int _ t, .agg [.int _ d, .dsl _ _ cs]] => some ⟨il ⟨ae aI ts, nx⟩ t.toNat ⟨d, ae a7 cs⟩, fun y => ⟨.agg (aP y), [], []⟩⟩ | _ => none) else
 bif Nat.beq f sN then (match vs with | [.agg [.dsl _ _ ts, .int _ nx], .int _ t, .int _ k] => some ⟨ik ⟨ae aI ts, nx⟩ t.toNat k.toNat, fun y => ⟨.agg (aP y), [], []⟩⟩ | _ => none) else
 bif Nat.beq f oM then (match vs with | [.agg [.dsl _ _ cs], .agg [.int _ kd, .str tn, .str nm, .dsl _ _ ws, .dsl _ _ rs, .dsl _ _ ms, .dsl _ _ os, .bool tl]] => some ⟨gK (ae aq cs) (rh kd tn nm ws rs ms os tl), fun y => ⟨.int .i64 y, [], []⟩⟩ | _ => none) else Eu S x ops ids ow f vs hp
noncomputable def cq : Vw := fun t cs i => bif Nat.beq t fO then some (aq ((ae aq cs).getD i Tb.zero)) else rV t cs i
noncomputable def jg : Env := { P := Tryz.prog, vw := cq, res := tR S x ops ids ow }
def wL (i t : Int) (l : List Sx) (o : Op') (k : Int) : St := ⟨ai 115 [(0, .ptr 0 0), (1, .int .i64 i), (2, .int .i64 t), (3, ab aT l), (8, .ptr 1 0), (9, .ptr 2 0), (10, .int .i64 k)], [wB S x ops ids ow, some (kD, fg), some (aY o, gM)], []⟩
def DE (i t : Int) (l : List Sx) : St := ⟨ai 115 [(0, .ptr 0 0), (1, .int .i64 i), (2, .int .i64 t), (3, ab aT l), (8, .ptr 1 0)], [wB S x ops ids ow, some (kD, fg)], []⟩
def DD : St := ⟨ai 115 [(8, .ptr 1 0)], [wB S x ops ids ow, some ([.int .i64 8, .int .i64 0, .int .i64 0, .dsl 0 true [], .dsl 0 true []], fg)], []⟩
def Kb : Ex -> Kp := fun ex => match ex with
 | .normal => { keep := [0, 1, 2, 3, 8, 9, 10] }
 | .ret => { keep := [8] }
 | _ => { keep := [0, 1, 2, 3, 8] }
def lx (ops : List Op') (i : Nat) (nm : List UInt8) : Bool := nm != [] && (ops.take i).any (fun q => q.kind == 1 && q.name == nm)
theorem Js (S : aS) (x : aM) (ops : List Op') (ids : List Int) (ow : List (List UInt8)) (i t : Int) (l : List Sx) (o : Op') (k : Int) : bx (jg S x ops ids ow) 1 Kb (lp Tryz.prog ni 0) (wL S x ops ids ow i t l o k) = (
 let q := List.getD (ae aY (ah aY ops)) k.toNat (Op'.mk (0 : Int) [] [] [] [] [] [] false);
 let q6 : List V := [aa 0, aa 0, aa 0, .dsl 0 true [], .dsl 0 true []];
 let q1 : Hp := [some ([ab aq S, ab aI x.ar, aa x.next, ab aY ops, ab aN ids, ab aW ow], 183), some (q6, 185), some (aY o, 178)];
 let q2 : Hp := [some ([ab aq S, ab aI x.ar, aa x.next, ab aY ops, ab aN ids, ab aW ow], 183), some (q6, 185)];
 let q3 := ai 115 [(0, .ptr 0 0), (1, aa i), (2, aa t), (3, ab aT l), (8, .ptr 1 0), (9, .ptr 2 0), (10, aa (IntKind.i64.wrap (k + 1)))];
 let q4 := ai 115 [(0, .ptr 0 0), (1, aa i), (2, aa t), (3, ab aT l), (8, .ptr 1 0)];
 let q5 : List Prop := [0 <= k /\ k < (↑ops.length : Int), List.take 8 (List.drop (k.toNat * 8) (ah aY ops)) = aY q]; bif decide (k < i) then bif !o.name == [] then .ag q5 (bif q.kind == 1 then .ag q5 (bif q.name == o.name then
  .done (Ex.ret, St.mk (ai 115 [(8, .ptr 1 0)]) [some ([ab aq S, ab aI x.ar, aa x.next, ab aY ops, ab aN ids, ab aW ow], 183), some ([aa 8, aa 0, aa 0, .dsl 0 true [], .dsl 0 true []], 185)] []) else .done
  (Ex.normal, St.mk q3 q1 [])) else .done (Ex.normal, St.mk q3 q1 [])) else .done (Ex.exit 0, St.mk q4 q2 []) else .done (Ex.exit 0, St.mk q4 q2 []) : T _) := by kernel_rfl
noncomputable def UO (o : Op') (l : List Sx) : Nat -> St -> Option bT := fun id s => match id, s.tm.get 1, s.tm.get 2 with
 | 0, .int _ i, .int _ t => some ⟨lx ops i.toNat o.name, fun y => .two { keep := [0, 1, 2, 3, 8, 9, 10] } (wL S x ops ids ow i t l o 0) y .ret (DD S x ops ids ow) (.exit 0) (DE S x ops ids ow i t l)⟩
 | _, _, _ => none
noncomputable def FP (o : Op') (l : List Sx) : Env := { P := Tryz.prog, vw := cq, res := tR S x ops ids ow, ls := UO S x ops ids ow o l }
theorem TT (S : aS) (x : aM) (ops : List Op') (ids : List Int) (ow : List (List UInt8)) (i t : Int) (l : List Sx) (o : Op') : fnT (FP S x ops ids ow o l) 0 ni [.ptr 0 0, .int .i64 i, .int .i64 t, ab aT l] [wB S x ops ids ow] = (
 let q := List.getD (ae aq (ah aq S)) t.toNat (Tb.mk [] [] [] false);
 let q5 : List V := [aa 0, aa 0, aa 0, .dsl 0 true [], .dsl 0 true []];
 let q1 : Hp := [some ([ab aq S, ab aI x.ar, aa x.next, ab aY ops, ab aN ids, ab aW ow], 183), some (q5, 185), some (aY o, 178)];
 let q2 := ai 115 [(0, .ptr 0 0), (1, aa i), (2, aa t), (3, ab aT l), (8, .ptr 1 0), (9, .ptr 2 0), (10, aa 0)];
 let q3 := List.getD (ae aN (ah aN ids)) i.toNat (0 : Int);
 let q4 : Hp := [some ([ab aq S, ab aI x.ar, aa x.next, ab aY ops, ab aN ids, ab aW ow], 183)];
 let q6 : List Prop := [0 <= i /\ i < (↑ids.length : Int), List.take 1 (List.drop (i.toNat * 1) (ah aN ids)) = [aa q3]];
 let q7 := List.getD (ae aY (ah aY ops)) i.toNat (Op'.mk (0 : Int) [] [] [] [] [] [] false);
 let q8 : List Prop := [0 <= t /\ t < (↑S.length : Int), List.take 4 (List.drop (t.toNat * 4) (ah aq S)) = (aq q)];
 let q9 := bw q.name (ah ba q.aw) (ah aN q.uniq) q.root;
 let br := ae aI (ah aI x.ar);
 let bD := List.getD br t.toNat []; .ag [0 <= i /\ i < (↑ops.length : Int), List.take 8 (List.drop (i.toNat * 8) (ah aY ops)) = aY q7] (.bind (lx ops i.toNat o.name) fun y0 => .ag [St.mk q2 [some ([ab aq S, ab aI
  x.ar, aa x.next, ab aY ops, ab aN ids, ab aW ow], 183), some (q5, 185), some (aY q7, 178)] [] = St.mk q2 q1 []] (bif y0 then .ag [aV Tryz.prog 1 (blk Tryz.prog ni 0) (St.mk q2 q1 []) Ex.ret (St.mk (ai 115
  [(8, .ptr 1 0)]) [some ([ab aq S, ab aI x.ar, aa x.next, ab aY ops, ab aN ids, ab aW ow], 183), some ([aa 8, aa 0, aa 0, .dsl 0 true [], .dsl 0 true []], 185)] [])] (.done (aj.mk (.agg [aa 8, aa 0, aa
  0, .dsl 0 false [], .dsl 0 false []]) q4 [])) else .ag [aV Tryz.prog 1 (blk Tryz.prog ni 0) (St.mk q2 q1 []) (Ex.exit 0) (St.mk (ai 115 [(0, .ptr 0 0), (1, aa i), (2, aa t), (3, ab aT l), (8, .ptr 1 0)]) [some ([ab
  aq S, ab aI x.ar, aa x.next, ab aY ops, ab aN ids, ab aW ow], 183), some (q5, 185)] [])] (.ag [0 <= t /\ t < (↑x.ar.length : Int), List.take 1 (List.drop (t.toNat * 1) (ah aI x.ar)) = [ab av bD]]
  (bif (↑bD.length : Int) == 12 then .done (aj.mk (.agg [aa 7, aa 0, aa 0, .dsl 0 false [], .dsl 0 false []]) q4 []) else .ag q8 (.ag q8 (.ag q6 (.bind (gi q9 q3) fun y1 => .ag [ao Tryz.prog 257 [.agg (aq q), aa
  q3] [] (aj.mk (.agg (av y1)) [] [])] (.bind (setRL q9 (ae aT (ah aT l)) (Rw.mk y1.id (ae a7 (ah a7 y1.cells)))) fun y2 => .ag [ao Tryz.prog 256 [.agg (aq q), .agg (av y1), ab aT l] [] (aj.mk
  (.tup [.agg (av y2.1), aa y2.2]) [] [])] (bif y2.2 != 0 then .done (aj.mk (.agg [aa y2.2, aa 0, aa 0, .dsl 0 false [], .dsl 0 false []]) q4 []) else .bind (il (aM.mk br x.next) t.toNat (Rw.mk y2.1.id (ae a7 (ah
  a7 y2.1.cells)))) fun y3 => .ag [ao Tryz.prog 131 [.agg (aP x), aa t, .agg (av y2.1)] [] (aj.mk (.agg (aP y3)) [] [])] (.ag q6 (.done (aj.mk (.agg [aa 0, aa 0, aa q3, .dsl 0 false [], .dsl 0 false []]) [some
  ([ab aq S, ab aI y3.ar, aa y3.next, ab aY ops, ab aN ids, ab aW ow], 183)] [0])))))))))))) : T _) := (T.force_eq _).symm.trans (by kernel_rfl)
variable {S x ops ids ow}
theorem TU (hn : ops.length <= 1048576) (i : Nat) (hi : i < ops.length) (t : Int) (l : List Sx) (o : Op') :
  (lx ops i o.name = true -> a8 Tryz.prog 1 (lp Tryz.prog ni 0) (wL S x ops ids ow i t l o 0) .ret (DD S x ops ids ow)) /\
  (lx ops i o.name = false -> a8 Tryz.prog 1 (lp Tryz.prog ni 0) (wL S x ops ids ow i t l o 0) (.exit 0) (DE S x ops ids ow i t l)) := by
 by_cases h0 : o.name = []
 ·have e : lx ops i o.name = false := by unfold lx; rw [h0]; rfl
  rw [e]
  refine ⟨(fun h => by cases h), fun _ => ?_⟩
  refine bl (E := jg S x ops ids ow) follows named (Js S x ops ids ow i t l o ((0 : Nat) : Int)) ?_
  simp only [az, T.WP, All, aB, aC, aA, aD, aE, aF]
  refine ⟨fun _ => ⟨fun h => ?_, fun _ => ⟨rfl, rfl⟩⟩, fun _ => ⟨rfl, rfl⟩⟩
  rw [h0] at h; cases h
 ·have hle : (ops.take i).length = i := by rw [List.length_take]; omega
  have yU : (o.name != []) = true := by simpa using h0
  have e : lx ops i o.name = !allN (fun j => !((ops.getD j .zero).kind == 1 && (ops.getD j .zero).name == o.name)) i 0 := by
   unfold lx
   rw [yU, Bool.true_and, <- Bool.not_not ((ops.take i).any _)]
   congr 1
   have h1 := om (fun z : Op' => !(z.kind == 1 && z.name == o.name)) .zero (ops.take i)
   rw [hle] at h1
   rw [List.not_any_eq_all_not, <- h1, Bool.eq_iff_iff, mf, mf]
   have ht : ∀ j, j < i -> (ops.take i).getD j .zero = ops.getD j .zero := fun j hj => by
    rw [List.getD_eq_getElem?_getD, List.getD_eq_getElem?_getD, List.getElem?_take_of_lt hj]
   exact ⟨fun h j h1 h2 => by rw [<- ht j af]; exact h j h1 h2, fun h j h1 h2 => by rw [ht j af]; exact h j h1 h2⟩
  rw [e]
  have hs := ij (E := jg S x ops ids ow) (m := 1) (nf := Kb) (c := lp Tryz.prog ni 0) (st := fun j => wL S x ops ids ow i t l o (j : Nat)) (n := i) (fun j => !((ops.getD j .zero).kind == 1 && (ops.getD j .zero).name == o.name)) (ex := .exit 0) (ex' := .ret) (sx := DE S x ops ids ow i t l) (sr := DD S x ops ids ow) follows named (by simp) (by simp) (fun j => Js S x ops ids ow i t l o (j : Nat)) (fun j hj => ?_) ?_ i 0 (by simp)
  ·exact ⟨fun h => hs.2 (by rw [Bool.not_eq_true'] at h; exact h), fun h => hs.1 (by rw [Bool.not_eq_false'] at h; exact h)⟩
  ·have aL := jW.at ops .zero j 8 af rfl
   have w1 : IntKind.i64.wrap ((j : Int) + 1) = ((j + 1 : Nat) : Int) := bE af
   simp only [Op'.zero] at *
   simp only [az, T.WP, All, aB, aC, aA, aD, aE, aF, w1, jW.ae, Int.toNat_natCast]
   refine ⟨fun _ => ⟨fun _ => ⟨⟨aK, aL⟩, fun h => ⟨⟨aK, aL⟩, fun h2 => ?_, fun h2 => ?_⟩, fun h => ?_⟩, fun h => ?_⟩, fun h => af⟩
   ·rw [h, h2, show ((1 : Int) == 1 && o.name == o.name) = true by simp]; rfl
   ·rw [h, show ((ops.getD j ⟨0, [], [], [], [], [], [], false⟩).name == o.name) = false by simpa using h2]; rfl
   ·rw [show ((ops.getD j ⟨0, [], [], [], [], [], [], false⟩).kind == 1) = false by simpa using h]; rfl
   ·exfalso
    have h' : (o.name != []) = false := h
    rw [yU] at h'; cases h'
  ·simp only [az, T.WP, All, aB, aC, aA, aD, aE, aF]
   exact ⟨fun h => af, fun _ => rfl⟩
theorem MC {t : Tb} : ∀ (l : List Sx) (r : Rw), od t r -> (∀ m ∈ l, m.val.length <= 1000) -> (setRL t l r).2 = 0 -> od t (setRL t l r).1 /\ (setRL t l r).1.id = r.id
 | [], r, hr, hl, h => ⟨hr, rfl⟩
 | s :: l, r, hr, hl, h => by
  rw [setRL] at h ⊢
  cases hf : cX (t.aw.getD (bf t s.aG).toNat .zero) s.val != 0
  ·rw [hf, cond_false] at h
   rw [cond_false]
   have := MC l ⟨r.id, r.cells.set (bf t s.aG).toNat s.val⟩ ⟨by show (List.set _ _ _).length = _; rw [List.length_set]; exact hr.n, fun d hd => by
    rcases List.mem_or_eq_of_mem_set (show d ∈ List.set _ _ _ from hd) with h | rfl
    ·exact hr.d d h
    ·exact hl s (by simp)⟩ (fun m hm => hl m (by simp [hm])) h
   exact this
  ·rw [hf, cond_true] at h
   have h' : cX (t.aw.getD (bf t s.aG).toNat .zero) s.val = 0 := h
   rw [h'] at hf; cases hf
theorem H9 (t : Tb) (id : Int) : od t (gi t id) := ⟨by unfold gi; simp, fun d hd => by
 obtain ⟨c, _, rfl⟩ := List.mem_map.1 hd
 have := PU c
 omega⟩
def pn (S : aS) (x : aM) (ops : List Op') (ids : List Int) (i t : Nat) (l : List Sx) : aM × dB :=
 bif lx ops i (ops.getD i .zero).name then (x, iv 8)
 else bif (x.ar.getD t []).length == 12 then (x, iv 7)
 else bif (setRL (S.getD t .zero) l (gi (S.getD t .zero) (ids.getD i 0))).2 != 0 then (x, iv (setRL (S.getD t .zero) l (gi (S.getD t .zero) (ids.getD i 0))).2)
 else (il x t (setRL (S.getD t .zero) l (gi (S.getD t .zero) (ids.getD i 0))).1, ⟨0, 0, ids.getD i 0, [], []⟩)
structure Gj (S : aS) (x : aM) : Prop where
 s : kf x
 n : x.ar.length = S.length
 m : ∀ t ∈ S, oh t
 l : ∀ rows ∈ x.ar, rows.length <= 1000
theorem TV (hx : Gj S x) (hn : ops.length <= 1048576) (hid : ids.length = ops.length) (i t : Nat) (hi : i < ops.length) (ht : t < S.length) (l : List Sx) (hl : ∀ m ∈ l, m.val.length <= 1000 /\ 0 <= bf (S.getD t .zero) m.aG) (cC : l.length <= 1048576) :
  ao Tryz.prog ni [.ptr 0 0, .int .i64 i, .int .i64 t, ab aT l] [wB S x ops ids ow] ⟨.agg (cZ (pn S x ops ids i t l).2), [wB S (pn S x ops ids i t l).1 ops ids ow], [0]⟩ := by
 have aL := jW.at ops .zero i 8 hi rfl
 have fY : t < x.ar.length := by rw [hx.n]; exact ht
 have iB := bB.at x.ar [] t 1 fY rfl
 have dC := bJ.at S .zero t 4 ht rfl
 have oW := ej.at ids 0 i 1 af rfl
 have hZ := hx.m _ (bP .zero ht)
 have hlen := hx.l _ (bP [] fY)
 have gY := TU (S := S) (x := x) (ids := ids) (ow := ow) hn i hi (t : Nat) l (ops.getD i .zero)
 have dP := QM (S.getD t .zero) (ids.getD i 0) hZ.n
 have cG := Mz hZ (H9 (S.getD t .zero) (ids.getD i 0)) hl cC
 have hM := MC (t := S.getD t .zero) l (gi (S.getD t .zero) (ids.getD i 0)) (H9 _ _) (fun m hm => (hl m hm).1)
 have hF : pn S x ops ids i t l = bif lx ops i (ops.getD i .zero).name then (x, iv 8)
  else bif (x.ar.getD t []).length == 12 then (x, iv 7)
  else bif (setRL (S.getD t .zero) l (gi (S.getD t .zero) (ids.getD i 0))).2 != 0 then (x, iv (setRL (S.getD t .zero) l (gi (S.getD t .zero) (ids.getD i 0))).2)
  else (il x t (setRL (S.getD t .zero) l (gi (S.getD t .zero) (ids.getD i 0))).1, ⟨0, 0, ids.getD i 0, [], []⟩) := rfl
 rw [hF]
 have vJ := fun h => Lv hx.s t (setRL (S.getD t .zero) l (gi (S.getD t .zero) (ids.getD i 0))).1 ((hM h).1.s hZ) fY af
 refine bh (E := FP S x ops ids ow (ops.getD i .zero) l) follows named (TT S x ops ids ow (i : Nat) (t : Nat) l (ops.getD i .zero)) (by simp) ?_
 simp only [Tb.zero, Op'.zero] at *
 simp only [az, T.WP, All, aA, aD, aE, aF, jW.ae, bB.ae, bJ.ae, ej.ae, dX.ae, bV.ae, cm, Int.toNat_natCast]
 generalize hS : S.getD t ⟨[], [], [], false⟩ = tb at *
 refine ⟨⟨aK, aL⟩, ?_⟩
 rintro y0 rfl
 refine ⟨bn, fun h => ⟨.bg (gY.1 h), ?_⟩, fun h => ⟨.bg (gY.2 h), ⟨aK, iB⟩, fun vc => ?_, fun vc => ⟨⟨aK, dC⟩, ⟨aK, dC⟩, ⟨aK, oW⟩, ?_⟩⟩⟩
 ·rw [h]; exact aQ
 ·have BQ : (x.ar.getD t []).length = 12 := af
  rw [h, BQ]; exact aQ
 ·have BQ : ((x.ar.getD t []).length == 12) = false := by rw [beq_eq_false_iff_ne]; omega
  rw [h, BQ]
  simp only [cond_false]
  rintro y1 rfl
  refine ⟨dP, ?_⟩
  rintro y2 e
  have e : y2 = setRL tb l (gi tb (ids.getD i 0)) := e
  rw [<- e] at cG vJ ⊢
  refine ⟨cG, fun h2 => ?_, fun h2 => ?_⟩
  ·rw [h2]; exact aQ
  ·rw [h2]
   rintro y3 rfl
   have hp := vJ (by simpa using h2)
   exact ⟨hp, ⟨aK, oW⟩, aQ⟩
end
abbrev mw : Nat := 225
def oz (t : Tb) (cl : List (List UInt8)) : List (List UInt8) := bif (cl.length : Int) == 0 then t.aw.map (·.name) else cl
def lY (t : Tb) (rows : List Rw) (bC : List a6) (cl : List (List UInt8)) : List Rw := (rows.filter fun r => cE t r bC).map fun r => vZ t r cl
def wk (t : Tb) (rows : List Rw) (o : Op') : dB := ⟨0, 0, 0, oz t o.aw, lY t rows o.bC (oz t o.aw)⟩
section
variable (S : aS) (x : aM) (ops : List Op') (ids : List Int) (ow : List (List UInt8))
def Ad (o : Op') (t : Int) (cs : List (List UInt8)) (rs : List Rw) (i : Int) : St := ⟨ai 107 [(0, .ptr 0 0), (2, .int .i64 t), (4, .ptr 1 0), (6, .ptr 2 0), (7, .ptr 3 0), (9, .int .i64 i)], [wB S x ops ids ow, some (aY o, gM), some (kD, fg), some ([.int .i64 0, .int .i64 0, .int .i64 0, ab aW cs, .sl 4 0 rs.length false], fg), some ([.aJ (ah av rs)], dy)], []⟩
def Ac (o : Op') (t : Int) (cs : List (List UInt8)) (i : Int) : St := ⟨ai 107 [(0, .ptr 0 0), (2, .int .i64 t), (4, .ptr 1 0), (6, .ptr 2 0), (7, .ptr 3 0), (8, .int .i64 i)], [wB S x ops ids ow, some (aY o, gM), some (kD, fg), some ([.int .i64 0, .int .i64 0, .int .i64 0, .sl 4 0 cs.length false, .sl 5 0 0 false], fg), some ([.aJ (ah aW cs)], pT), some ([.aJ []], dy)], []⟩
def MQ (cs : List (List UInt8)) (rs : List Rw) : St := ⟨ai 107 [(0, .ptr 0 0), (6, .ptr 1 0), (7, .ptr 2 0)], [wB S x ops ids ow, some (kD, fg), some ([.int .i64 0, .int .i64 0, .int .i64 0, ab aW cs, .sl 3 0 rs.length false], fg), some ([.aJ (ah av rs)], dy)], []⟩
def MR (o : Op') (t : Int) (cs : List (List UInt8)) : St := ⟨ai 107 [(0, .ptr 0 0), (2, .int .i64 t), (4, .ptr 1 0), (6, .ptr 2 0), (7, .ptr 3 0)], [wB S x ops ids ow, some (aY o, gM), some (kD, fg), some ([.int .i64 0, .int .i64 0, .int .i64 0, .sl 4 0 cs.length false, .sl 5 0 0 false], fg), some ([.aJ (ah aW cs)], pT), some ([.aJ []], dy)], []⟩
def WY : Ex -> Kp := fun ex => match ex with
 | .normal => { keep := [0, 2, 4, 6, 7, 9] }
 | _ => { keep := [0, 6, 7] }
def WX : Ex -> Kp := fun ex => match ex with
 | .normal => { keep := [0, 2, 4, 6, 7, 8] }
 | _ => { keep := [0, 2, 4, 6, 7] }
theorem MP (S : aS) (x : aM) (ops : List Op') (ids : List Int) (ow : List (List UInt8)) (o : Op') (t : Int) (cs : List (List UInt8)) (rs : List Rw) (i : Int) : bx (jg S x ops ids ow) 1 WY (lp Tryz.prog mw 2) (Ad S x ops ids ow o t cs rs i) = (
 let q2 := List.getD (ae aI (ah aI x.ar)) t.toNat [];
 let q := List.getD (ae av (ah av q2)) i.toNat (Rw.mk (0 : Int) []);
 let q1 := List.getD (ae aq (ah aq S)) t.toNat (Tb.mk [] [] [] false);
 let q3 := ai 107 [(0, .ptr 0 0), (2, aa t), (4, .ptr 1 0), (6, .ptr 2 0), (7, .ptr 3 0), (9, aa (IntKind.i64.wrap (i + 1)))];
 let q4 : List V := [aa 0, aa 0, aa 0, .dsl 0 true [], .dsl 0 true []];
 let q5 : List Prop := [0 <= t /\ t < (↑x.ar.length : Int), List.take 1 (List.drop (t.toNat * 1) (ah aI x.ar)) = [ab av q2]];
 let q6 : List Prop := [0 <= t /\ t < (↑S.length : Int), List.take 4 (List.drop (t.toNat * 4) (ah aq S)) = (aq q1)];
 let q7 := bw q1.name (ah ba q1.aw) (ah aN q1.uniq) q1.root;
 let q8 : List V := [aa q.id, ab a7 q.cells];
 let q9 := Rw.mk q.id (ae a7 (ah a7 q.cells)); .ag q5 (bif decide (i < (↑q2.length : Int)) then .ag q5 (.ag [0 <= i /\ i < (↑q2.length : Int), List.take 2 (List.drop (i.toNat * 2) (ah av q2)) = q8] (.ag q6 (.bind
  (cE q7 q9 (ae aH (ah aH o.bC))) fun y0 => .ag [ao Tryz.prog 117 [.agg (aq q1), .agg q8, ab aH o.bC] [] (aj.mk (.bool y0) [] [])] (bif y0 then .ag q6 (.bind (vZ q7 q9 (ae aW (ah aW cs))) fun
  y1 => .ag [ao Tryz.prog 237 [.agg (aq q1), .agg q8, ab aW cs] [] (aj.mk (.agg (av y1)) [] [])] (.ag [0 = 0, List.length (ah av rs) = rs.length * 2, rs.length + 1 <= 9223372036854775807, (rs.length + 1) * 32 <=
  140737488355328] (.done (Ex.normal, St.mk q3 [some ([ab aq S, ab aI x.ar, aa x.next, ab aY ops, ab aN ids, ab aW ow], 183), some (aY o, 178), some (q4, 185), some ([aa 0, aa 0, aa 0, ab aW cs, .sl 4
  0 (rs.length + 1) false], 185), some ([.aJ (ah av rs ++ (av y1))], 53)] [])))) else .done (Ex.normal, St.mk q3 [some ([ab aq S, ab aI x.ar, aa x.next, ab aY ops, ab aN ids, ab aW ow], 183), some
  (aY o, 178), some (q4, 185), some ([aa 0, aa 0, aa 0, ab aW cs, .sl 4 0 rs.length false], 185), some ([.aJ (ah av rs)], 53)] []))))) else .done (Ex.exit 2, St.mk (ai 107 [(0, .ptr 0 0), (6, .ptr 1 0), (7, .ptr 2 0)])
  [some ([ab aq S, ab aI x.ar, aa x.next, ab aY ops, ab aN ids, ab aW ow], 183), some (q4, 185), some ([aa 0, aa 0, aa 0, ab aW cs, .sl 3 0 rs.length false], 185), some ([.aJ (ah av rs)], 53)] [])) : T _) := (T.force_eq _).symm.trans (by kernel_rfl)
theorem MO (S : aS) (x : aM) (ops : List Op') (ids : List Int) (ow : List (List UInt8)) (o : Op') (t : Int) (cs : List (List UInt8)) (i : Int) : bx (jg S x ops ids ow) 1 WX (lp Tryz.prog mw 0) (Ac S x ops ids ow o t cs i) = (
 let q := List.getD (ae aq (ah aq S)) t.toNat (Tb.mk [] [] [] false);
 let q1 := List.getD (ae ba (ah ba q.aw)) i.toNat (bt.mk [] (0 : Int) (0 : Int) (0 : Int) (0 : Int) (0 : Int) [] false);
 let q2 : List Prop := [0 <= t /\ t < (↑S.length : Int), List.take 4 (List.drop (t.toNat * 4) (ah aq S)) = (aq q)];
 let q3 : List V := [aa 0, aa 0, aa 0, .dsl 0 true [], .dsl 0 true []];
 let q4 := (↑q.aw.length : Int); .ag q2 (bif decide (i < q4) then .ag q2 (.ag [0 <= i /\ i < q4, List.take 8 (List.drop (i.toNat * 8) (ah ba q.aw)) = ba q1] (.ag [0 = 0, List.length (ah aW cs) = cs.length * 1,
  cs.length + 1 <= 9223372036854775807, (cs.length + 1) * 16 <= 140737488355328] (.done (Ex.normal, St.mk (ai 107 [(0, .ptr 0 0), (2, aa t), (4, .ptr 1 0), (6, .ptr 2 0), (7, .ptr 3 0), (8, aa (IntKind.i64.wrap (i + 1)))]) [some ([ab
  aq S, ab aI x.ar, aa x.next, ab aY ops, ab aN ids, ab aW ow], 183), some (aY o, 178), some (q3, 185), some ([aa 0, aa 0, aa 0, .sl 4 0 (cs.length + 1) false, .sl 5 0 0 false], 185), some ([.aJ (ah
  aW cs ++ [.str q1.name])], 9), some ([.aJ []], 53)] [])))) else .done (Ex.exit 0, St.mk (ai 107 [(0, .ptr 0 0), (2, aa t), (4, .ptr 1 0), (6, .ptr 2 0), (7, .ptr 3 0)]) [some ([ab aq S, ab aI x.ar, aa x.next, ab
  aY ops, ab aN ids, ab aW ow], 183), some (aY o, 178), some (q3, 185), some ([aa 0, aa 0, aa 0, .sl 4 0 cs.length false, .sl 5 0 0 false], 185), some ([.aJ (ah aW cs)], 9), some ([.aJ []], 53)] [])) : T _) := (T.force_eq _).symm.trans (by kernel_rfl)
noncomputable def Vj (o : Op') (t : Int) : Nat -> St -> Option bT := fun id s => match id with
 | 0 => some ⟨(), fun _ => .one { keep := [0, 2, 4, 6, 7, 8], lX := [(3, 3), (3, 4), (4, 3), (4, 4), (5, 3), (5, 4), (6, 3), (6, 4), (7, 3), (7, 4)] } (Ac S x ops ids ow o t [] 0) (.exit 0) (MR S x ops ids ow o t ((S.getD t.toNat .zero).aw.map (·.name)))⟩
 | 2 => match s.tm.get 7 with
  | .ptr b 0 => match s.hp[b]? with
   | some (some ([_, _, _, _, .sl r _ _ _], _)) => some ⟨oz (S.getD t.toNat .zero) o.aw, fun y => .one { keep := [0, 2, 4, 6, 7, 9], perm := some ([0, 1, 2, b, r], [4]), lX := [(b, 3), (b, 4)] } (Ad S x ops ids ow o t y [] 0) (.exit 2) (MQ S x ops ids ow y (lY (S.getD t.toNat .zero) (x.ar.getD t.toNat []) o.bC y))⟩
   | _ => none
  | _ => none
 | _ => none
noncomputable def F0 (o : Op') (t : Int) : Env := { P := Tryz.prog, vw := cq, res := tR S x ops ids ow, ls := Vj S x ops ids ow o t }
theorem slT (S : aS) (x : aM) (ops : List Op') (ids : List Int) (ow : List (List UInt8)) (o : Op') (t : Int) : fnT (F0 S x ops ids ow o t) 0 mw [.ptr 0 0, .agg (aY o), .int .i64 t] [wB S x ops ids ow] = (
 let q : List V := [aa 0, aa 0, aa 0, .dsl 0 true [], .dsl 0 true []];
 let q1 := ai 107 [(0, .ptr 0 0), (2, aa t), (4, .ptr 1 0), (6, .ptr 2 0), (7, .ptr 3 0), (9, aa 0)];
 let q2 := List.getD S t.toNat (Tb.mk [] [] [] false);
 let q3 := ai 107 [(0, .ptr 0 0), (2, aa t), (4, .ptr 1 0), (6, .ptr 2 0), (7, .ptr 3 0), (8, aa 0)];
 let q4 := List.map (fun x => x.name) q2.aw;
 let q5 := 0 + o.aw.length;
 let q6 := ah aW o.aw;
 let q7 : List V := [aa 0, aa 0, aa 0, .sl 4 0 0 false, .sl 5 0 0 false];
 let q8 := ai 107 [(0, .ptr 0 0), (6, .ptr 1 0), (7, .ptr 2 0)]; .ag [q6.length = o.aw.length * 1, List.all q6 V.one = true, 0 = 0, 0 = 0, 0 + o.aw.length <= 9223372036854775807, q5 * 16 <= 140737488355328] (bif (↑q5 : Int) == 0
  then .bind PUnit.unit fun _ =>
 let q9 : Hp := [some ([ab aq S, ab aI x.ar, aa x.next, ab aY ops, ab aN ids, ab aW ow], 183), some (aY o, 178), some (q, 185), some (q7, 185), some ([.aJ []], 9), some ([.aJ []], 53)];
 let br := List.getD x.ar t.toNat []; .ag [St.mk q3 [some ([ab aq S, ab aI x.ar, aa x.next, ab aY ops, ab aN ids, ab aW ow], 183), some (aY o, 178), some (q, 185), some ([aa 0, aa 0, aa 0, .sl 4 0 q5
  false, .sl 5 0 0 false], 185), some ([.aJ q6], 9), some ([.aJ []], 53)] [] = St.mk q3 q9 [], aV Tryz.prog 1 (blk Tryz.prog mw 0) (St.mk q3 q9 []) (Ex.exit 0) (St.mk (ai 107 [(0, .ptr 0 0), (2, aa t), (4, .ptr 1 0), (6, .ptr
  2 0), (7, .ptr 3 0)]) [some ([ab aq S, ab aI x.ar, aa x.next, ab aY ops, ab aN ids, ab aW ow], 183), some (aY o, 178), some (q, 185), some ([aa 0, aa 0, aa 0, .sl 4 0 q4.length false, .sl 5 0 0 false],
  185), some ([.aJ (ah aW q4)], 9), some ([.aJ []], 53)] [])] (.bind (oz q2 o.aw) fun y1 =>
 let bD : Hp := [some ([ab aq S, ab aI x.ar, aa x.next, ab aY ops, ab aN ids, ab aW ow], 183), some (aY o, 178), some (q, 185), some ([aa 0, aa 0, aa 0, ab aW y1, .sl 4 0 0 false], 185), some ([.aJ
  []], 53)];
 let bL := lY q2 br o.bC y1; .ag [St.mk q1 [some ([ab aq S, ab aI x.ar, aa x.next, ab aY ops, ab aN ids, ab aW ow], 183), some (aY o, 178), some (q, 185), some ([aa 0, aa 0, aa 0, ab aW q4, .sl
  4 0 0 false], 185), some ([.aJ []], 53)] [] = St.mk q1 bD [], aV Tryz.prog 1 (blk Tryz.prog mw 2) (St.mk q1 bD []) (Ex.exit 2) (St.mk q8 [some ([ab aq S, ab aI x.ar, aa x.next, ab aY ops, ab aN ids, ab
  aW ow], 183), some (q, 185), some ([aa 0, aa 0, aa 0, ab aW y1, .sl 3 0 bL.length false], 185), some ([.aJ (ah av bL)], 53)] [])] (.done (aj.mk (.agg [aa 0, aa 0, aa 0, ab aW y1, ab av bL]) [some ([ab
  aq S, ab aI x.ar, aa x.next, ab aY ops, ab aN ids, ab aW ow], 183)] []))) else .bind (oz q2 o.aw) fun y2 =>
 let ca : Hp := [some ([ab aq S, ab aI x.ar, aa x.next, ab aY ops, ab aN ids, ab aW ow], 183), some (aY o, 178), some (q, 185), some ([aa 0, aa 0, aa 0, ab aW y2, .sl 4 0 0 false], 185), some ([.aJ
  []], 53)];
 let cU := lY q2 (List.getD x.ar t.toNat []) o.bC y2; .ag [St.mk q1 [some ([ab aq S, ab aI x.ar, aa x.next, ab aY ops, ab aN ids, ab aW ow], 183), some (aY o, 178), some (q, 185), some ([aa 0, aa 0,
  aa 0, .dsl q5 false q6, .sl 4 0 0 false], 185), some ([.aJ []], 53)] [] = St.mk q1 ca [], aV Tryz.prog 1 (blk Tryz.prog mw 2) (St.mk q1 ca []) (Ex.exit 2) (St.mk q8 [some ([ab aq S, ab aI x.ar, aa x.next, ab
  aY ops, ab aN ids, ab aW ow], 183), some (q, 185), some ([aa 0, aa 0, aa 0, ab aW y2, .sl 3 0 cU.length false], 185), some ([.aJ (ah av cU)], 53)] [])] (.done (aj.mk (.agg [aa 0, aa 0, aa 0, ab aW
  y2, ab av cU]) [some ([ab aq S, ab aI x.ar, aa x.next, ab aY ops, ab aN ids, ab aW ow], 183)] []))) : T _) := (T.force_eq _).symm.trans (by kernel_rfl)
variable {S x ops ids ow}
structure iQ (S : aS) (x : aM) : Prop where
 h : er S x
 m : ∀ t ∈ S, oh t
 l : ∀ rows ∈ x.ar, rows.length <= 1000
 d : ∀ rows ∈ x.ar, ∀ r ∈ rows, ∀ d ∈ r.cells, d.length <= 1000
theorem iQ.w (hx : iQ S x) : Gj S x := ⟨hx.h.s, hx.h.n, hx.m, hx.l⟩
theorem iQ.rw (hx : iQ S x) {t : Nat} (ht : t < S.length) : ∀ r ∈ x.ar.getD t [], ji (S.getD t .zero) r := fun r hr => by
 have qV : t < x.ar.length := by rw [hx.h.n]; exact ht
 exact ⟨hx.h.s.r _ (bP [] qV) r hr, hx.h.c t qV r hr, (hx.h.k _ (bP .zero ht)).1⟩
theorem ac1 (t : Tb) (rows : List Rw) (l : List a6) (cl : List (List UInt8)) (n : Nat) (hn : n < rows.length) : lY t (rows.take (n + 1)) l cl = lY t (rows.take n) l cl ++ (bif cE t (rows.getD n ⟨0, []⟩) l then [vZ t (rows.getD n ⟨0, []⟩) cl] else []) := by
 unfold lY
 rw [j5 ⟨0, []⟩ hn, List.filter_append, List.map_append]
 congr 1
 cases h : cE t (rows.getD n ⟨0, []⟩) l
 all_goals
  simp only [List.filter, h]
  rfl
theorem aa2 (t : Tb) (rows : List Rw) (l : List a6) (cl : List (List UInt8)) : (lY t rows l cl).length <= rows.length := by
 unfold lY
 rw [List.length_map]
 exact List.length_filter_le _ _
theorem ML (hx : iQ S x) {o : Op'} {t : Nat} (ht : t < S.length) (hc : ∀ c ∈ o.bC, j9 c) (hl : o.bC.length <= 1048576) {cs : List (List UInt8)} (fL : cs.length <= 1048576) : ∀ (m n : Nat), n + m = (x.ar.getD t []).length ->
  a8 Tryz.prog 1 (lp Tryz.prog mw 2) (Ad S x ops ids ow o t cs (lY (S.getD t .zero) ((x.ar.getD t []).take n) o.bC cs) n) (.exit 2) (MQ S x ops ids ow cs (lY (S.getD t .zero) (x.ar.getD t []) o.bC cs))
 | 0, n, hk => by
  have fY : t < x.ar.length := by rw [hx.h.n]; exact ht
  have iB := bB.at x.ar [] t 1 fY rfl
  have hk : n = (x.ar.getD t []).length := hk
  subst hk
  rw [List.take_length]
  refine bl (E := jg S x ops ids ow) follows named (MP S x ops ids ow o (t : Nat) cs _ ((x.ar.getD t []).length : Nat)) ?_
  simp only [az, T.WP, All, aB, aC, aA, bB.ae, Int.toNat_natCast]
  exact ⟨⟨aK, iB⟩, fun h => af, fun _ => ⟨rfl, rfl⟩⟩
 | m + 1, n, hk => by
  have fY : t < x.ar.length := by rw [hx.h.n]; exact ht
  have iB := bB.at x.ar [] t 1 fY rfl
  have dC := bJ.at S .zero t 4 ht rfl
  have hn : n < (x.ar.getD t []).length := af
  have CL := bN.at (x.ar.getD t []) ⟨0, []⟩ n 2 hn rfl
  have ih := ML hx ht hc hl fL m (n + 1) af
  have hlen := hx.l _ (bP [] fY)
  have w1 : IntKind.i64.wrap ((n : Int) + 1) = ((n + 1 : Nat) : Int) := bE af
  have vM := hx.rw ht _ (bP ⟨0, []⟩ hn)
  have ha := Bp vM hc hl
  have hp := Yj vM cs fL
  have cC := aa2 (S.getD t .zero) ((x.ar.getD t []).take n) o.bC cs
  rw [List.length_take] at cC
  rw [ac1 _ _ _ _ n hn] at ih
  refine bl (E := jg S x ops ids ow) follows named (MP S x ops ids ow o (t : Nat) cs _ (n : Nat)) ?_
  simp only [Tb.zero] at *
  simp only [az, T.WP, All, aB, aC, aA, w1, bB.ae, bJ.ae, bN.ae, cg.ae, bV.ae, dM.ae, bN.length, cm, Int.toNat_natCast]
  refine ⟨⟨aK, iB⟩, fun _ => ⟨⟨aK, iB⟩, ⟨aK, CL⟩, ⟨aK, dC⟩, ?_⟩, fun h => af⟩
  rintro y rfl
  refine ⟨ha, fun h => ?_, fun h => ?_⟩
  ·rw [show cE (S.getD t ⟨[], [], [], false⟩) ((x.ar.getD t []).getD n ⟨0, []⟩) o.bC = true from h, cond_true] at ih
   refine ⟨⟨aK, dC⟩, ?_⟩
   rintro y1 rfl
   refine ⟨hp, aK, ?_⟩
   simp only [Ad, dU, av, ab, List.length_append, List.length_singleton] at ih ⊢
   exact ih
  ·rw [show cE (S.getD t ⟨[], [], [], false⟩) ((x.ar.getD t []).getD n ⟨0, []⟩) o.bC = false from h, cond_false, List.append_nil] at ih
   exact ih
theorem MK (hx : iQ S x) {o : Op'} {t : Nat} (ht : t < S.length) : ∀ (m n : Nat), n + m = (S.getD t .zero).aw.length ->
  a8 Tryz.prog 1 (lp Tryz.prog mw 0) (Ac S x ops ids ow o t (((S.getD t .zero).aw.take n).map (·.name)) n) (.exit 0) (MR S x ops ids ow o t ((S.getD t .zero).aw.map (·.name)))
 | 0, n, hk => by
  have dC := bJ.at S .zero t 4 ht rfl
  have hk : n = (S.getD t .zero).aw.length := hk
  subst hk
  rw [List.take_length]
  refine bl (E := jg S x ops ids ow) follows named (MO S x ops ids ow o (t : Nat) _ ((S.getD t .zero).aw.length : Nat)) ?_
  simp only [Tb.zero] at *
  simp only [az, T.WP, All, aB, aC, aA, bJ.ae, Int.toNat_natCast]
  exact ⟨⟨aK, dC⟩, fun h => af, fun _ => ⟨rfl, rfl⟩⟩
 | m + 1, n, hk => by
  have dC := bJ.at S .zero t 4 ht rfl
  have hn : n < (S.getD t .zero).aw.length := af
  have qE := cR.at (S.getD t .zero).aw .zero n 8 hn rfl
  have ih := MK hx ht (o := o) m (n + 1) af
  have yO := (hx.h.k _ (bP .zero ht)).1
  have w1 : IntKind.i64.wrap ((n : Int) + 1) = ((n + 1 : Nat) : Int) := bE af
  have hle : ((S.getD t .zero).aw.take n).length = n := by rw [List.length_take]; omega
  rw [j5 .zero hn, List.map_append, List.map_singleton] at ih
  refine bl (E := jg S x ops ids ow) follows named (MO S x ops ids ow o (t : Nat) _ (n : Nat)) ?_
  simp only [Tb.zero, bt.zero] at *
  simp only [az, T.WP, All, aB, aC, aA, w1, bJ.ae, cR.ae, dM.length, List.length_map, hle, Int.toNat_natCast]
  refine ⟨⟨aK, dC⟩, fun _ => ⟨⟨aK, dC⟩, ⟨aK, qE⟩, aK, ?_⟩, fun h => af⟩
  simp only [Ac, dU, aW, ab, List.length_append, List.length_singleton, List.length_map, hle] at ih ⊢
  exact ih
theorem ac0 (hx : iQ S x) {o : Op'} {t : Nat} (ht : t < S.length) (hc : ∀ c ∈ o.bC, j9 c) (hl : o.bC.length <= 1048576) (bQ : o.aw.length <= 1048576) :
  ao Tryz.prog mw [.ptr 0 0, .agg (aY o), .int .i64 t] [wB S x ops ids ow] ⟨.agg (cZ (wk (S.getD t .zero) (x.ar.getD t []) o)), [wB S x ops ids ow], []⟩ := by
 have yO := (hx.h.k _ (bP .zero ht)).1
 have h0 := MK hx ht (o := o) (ops := ops) (ids := ids) (ow := ow) (S.getD t .zero).aw.length 0 (by omega)
 have h2 := fun cs fL => ML hx ht hc hl (cs := cs) fL (ops := ops) (ids := ids) (ow := ow) (x.ar.getD t []).length 0 (by omega)
 refine bh (E := F0 S x ops ids ow o (t : Nat)) follows named (slT S x ops ids ow o (t : Nat)) (by simp) ?_
 simp only [Tb.zero] at *
 simp only [az, T.WP, All, and_true, beq_iff_eq, beq_eq_false_iff_ne, ne_eq, dM.length, dM.all, Int.toNat_natCast, Nat.zero_add]
 refine ⟨(by (repeat' with_reducible apply And.intro) <;> first | omega | with_reducible rfl | assumption | exact True.intro | trivial | rfl), fun e => ?_, fun e => ?_⟩
 ·have e0 : o.aw = [] := List.length_eq_zero_iff.1 (by simpa using e)
  rw [e0]
  have ec : oz (S.getD t ⟨[], [], [], false⟩) [] = (S.getD t ⟨[], [], [], false⟩).aw.map (·.name) := rfl
  rintro _ -
  refine ⟨⟨rfl, .bg h0⟩, ?_⟩
  rintro y rfl
  refine ⟨⟨?_, .bg (h2 _ ?_)⟩, ?_⟩
  ·rw [ec]
  ·rw [ec, List.length_map]; exact yO
  ·rw [wk, e0]; exact ⟨rfl, rfl, by simp⟩
 ·have e0 : ((o.aw.length : Int) == 0) = false := by simpa using e
  have ec : oz (S.getD t ⟨[], [], [], false⟩) o.aw = o.aw := by unfold oz; rw [e0, cond_false]
  rintro y rfl
  refine ⟨⟨?_, .bg (h2 _ ?_)⟩, ?_⟩
  ·rw [ec]
  ·rw [ec]; exact bQ
  ·exact ⟨rfl, rfl, by simp⟩
end
abbrev nn : Nat := 226
abbrev qn : Nat := 227
def mg (t : Tb) (r : Rw) (l : List Sx) : Bool := l.all fun q => decide (r.cells.getD (bf t q.aG).toNat [] = q.val)
def mX (t : Tb) (bC : List a6) (l : List Sx) : List Rw -> Nat -> Bool -> Nat × Bool
 | [], n, a => (n, a)
 | r :: rs, n, a => bif cE t r bC then mX t bC l rs (n + 1) (a && mg t r l) else mX t bC l rs n a
def NB (iO : Bool) (y : Nat × Bool) : dB := bif ((decide (0 < y.1) && y.2) != iO) then iv 15 else iv 0
def xi (t : Tb) (rows : List Rw) (o : Op') (l : List Sx) : dB := NB o.iO (mX t o.bC l rows 0 true)
section
variable (S : aS) (x : aM) (ops : List Op') (ids : List Int) (ow : List (List UInt8))
def Fl (o : Op') (t : Int) (l : List Sx) (n : Int) (a : Bool) (i : Int) (r : Rw) (k : Int) : St := ⟨ai 96 [(0, .ptr 0 0), (2, .int .i64 t), (3, ab aT l), (5, .ptr 1 0), (8, .ptr 2 0), (9, .int .i64 n), (10, .bool a), (11, .int .i64 i), (12, .ptr 3 0), (13, .int .i64 k)], [wB S x ops ids ow, some (aY o, gM), some (kD, fg), some (av r, dy)], []⟩
def w9 (o : Op') (t : Int) (l : List Sx) (n : Int) (a : Bool) (i : Int) : St := ⟨ai 96 [(0, .ptr 0 0), (2, .int .i64 t), (3, ab aT l), (5, .ptr 1 0), (8, .ptr 2 0), (9, .int .i64 n), (10, .bool a), (11, .int .i64 i)], [wB S x ops ids ow, some (aY o, gM), some (kD, fg)], []⟩
def NG (o : Op') (n : Int) (a : Bool) : St := ⟨ai 96 [(5, .ptr 1 0), (8, .ptr 2 0), (9, .int .i64 n), (10, .bool a)], [wB S x ops ids ow, some (aY o, gM), some (kD, fg)], []⟩
def W8 : Ex -> Kp := fun ex => match ex with
 | .normal => { keep := [0, 2, 3, 5, 8, 9, 10, 11, 12, 13] }
 | _ => { keep := [0, 2, 3, 5, 8, 9, 10, 11] }
def W7 : Ex -> Kp := fun ex => match ex with
 | .normal => { keep := [0, 2, 3, 5, 8, 9, 10, 11] }
 | _ => { keep := [5, 8, 9, 10] }
noncomputable def Vu (o : Op') (t : Int) (l : List Sx) : Nat -> St -> Option bT := fun id s => match id, s.tm.get 9, s.tm.get 10, s.tm.get 11, s.tm.get 12 with
 | 2, .int _ n, .bool a, .int _ i, .ptr b 0 => match s.hp[b]? with
  | some (some ([.int _ d, .dsl _ _ cs], _)) => some ⟨a && mg (S.getD t.toNat .zero) ⟨d, ae a7 cs⟩ l, fun y => .one { keep := [0, 2, 3, 5, 8, 9, 10, 11, 12, 13] } (Fl S x ops ids ow o t l n a i ⟨d, ae a7 cs⟩ 0) (.exit 2) (w9 S x ops ids ow o t l n y i)⟩
  | _ => none
 | 0, .int _ 0, .bool true, .int _ 0, _ => some ⟨mX (S.getD t.toNat .zero) o.bC l (x.ar.getD t.toNat []) 0 true, fun y => .one { keep := [0, 2, 3, 5, 8, 9, 10, 11] } (w9 S x ops ids ow o t l 0 true 0) (.exit 0) (NG S x ops ids ow o y.1 y.2)⟩
 | _, _, _, _, _ => none
noncomputable def uC (o : Op') (t : Int) (l : List Sx) : Env := { P := Tryz.prog, vw := cq, res := tR S x ops ids ow, ls := Vu S x ops ids ow o t l }
theorem NF (S : aS) (x : aM) (ops : List Op') (ids : List Int) (ow : List (List UInt8)) (o : Op') (t : Int) (l : List Sx) (n : Int) (a : Bool) (i : Int) (r : Rw) (k : Int) : bx (jg S x ops ids ow) 1 W8 (lp Tryz.prog nn 2) (Fl S x ops ids ow o t l n a i r k) = (
 let q := List.getD (ae aT (ah aT l)) k.toNat (Sx.mk [] [] []);
 let q1 := List.getD (ae aq (ah aq S)) t.toNat (Tb.mk [] [] [] false);
 let q5 : List V := [aa 0, aa 0, aa 0, .dsl 0 true [], .dsl 0 true []];
 let q2 : Hp := [some ([ab aq S, ab aI x.ar, aa x.next, ab aY ops, ab aN ids, ab aW ow], 183), some (aY o, 178), some (q5, 185), some ((av r), 53)];
 let q3 : List Prop := [0 <= k /\ k < (↑l.length : Int), List.take 3 (List.drop (k.toNat * 3) (ah aT l)) = [.str q.aG, ab ak q.val, ab aW q.names]];
 let q7 := ah a7 r.cells;
 let q4 := ae a7 q7;
 let q6 := IntKind.i64.wrap (k + 1); bif decide (k < (↑l.length : Int)) then bif a then .ag [0 <= t /\ t < (↑S.length : Int), List.take 4 (List.drop (t.toNat * 4) (ah aq S)) = (aq q1)] (.ag q3 (.bind (bf (bw q1.name (ah
  ba q1.aw) (ah aN q1.uniq) q1.root) q.aG) fun y0 =>
 let q8 := List.getD q4 y0.toNat []; .ag [ao Tryz.prog 178 [.agg (aq q1), .str q.aG] [] (aj.mk (aa y0) [] [])] (.ag [0 <= y0 /\ y0 < (↑r.cells.length : Int), List.take 1 (List.drop (y0.toNat * 1) q7) = [ab ak q8]] (.ag q3
  (.bind (decide (ae ak (ah ak q8) = ae ak (ah ak q.val))) fun y1 => .ag [ao Tryz.prog 215 [ab ak q8, ab ak q.val] [] (aj.mk (.bool y1) [] [])] (.done (Ex.normal, St.mk (ai 96 [(0, .ptr 0 0), (2, aa
  t), (3, ab aT l), (5, .ptr 1 0), (8, .ptr 2 0), (9, aa n), (10, .bool y1), (11, aa i), (12, .ptr 3 0), (13, aa q6)]) q2 []))))))) else .done (Ex.normal, St.mk (ai 96 [(0, .ptr 0 0), (2, aa t), (3, ab aT l), (5, .ptr 1 0),
  (8, .ptr 2 0), (9, aa n), (10, .bool false), (11, aa i), (12, .ptr 3 0), (13, aa q6)]) q2 []) else .done (Ex.exit 2, St.mk (ai 96 [(0, .ptr 0 0), (2, aa t), (3, ab aT l), (5, .ptr 1 0), (8, .ptr 2 0), (9, aa n), (10, .bool
  a), (11, aa i)]) [some ([ab aq S, ab aI x.ar, aa x.next, ab aY ops, ab aN ids, ab aW ow], 183), some (aY o, 178), some (q5, 185)] []) : T _) := by kernel_rfl
theorem ND (S : aS) (x : aM) (ops : List Op') (ids : List Int) (ow : List (List UInt8)) (o : Op') (t : Int) (l : List Sx) (n : Int) (a : Bool) (i : Int) : bx (uC S x ops ids ow o t l) 1 W7 (lp Tryz.prog nn 0) (w9 S x ops ids ow o t l n a i) = (
 let q5 := List.getD (ae aI (ah aI x.ar)) t.toNat [];
 let q := List.getD (ae av (ah av q5)) i.toNat (Rw.mk (0 : Int) []);
 let q7 : List V := [aa 0, aa 0, aa 0, .dsl 0 true [], .dsl 0 true []];
 let q1 : Hp := [some ([ab aq S, ab aI x.ar, aa x.next, ab aY ops, ab aN ids, ab aW ow], 183), some (aY o, 178), some (q7, 185)];
 let br := IntKind.i64.wrap (n + 1);
 let q2 := ai 96 [(0, .ptr 0 0), (2, aa t), (3, ab aT l), (5, .ptr 1 0), (8, .ptr 2 0), (9, aa br), (10, .bool a), (11, aa i), (12, .ptr 3 0), (13, aa 0)];
 let q6 := Rw.mk q.id (ae a7 (ah a7 q.cells));
 let q3 : Hp := [some ([ab aq S, ab aI x.ar, aa x.next, ab aY ops, ab aN ids, ab aW ow], 183), some (aY o, 178), some (q7, 185), some ([aa q6.id, ab a7 q6.cells], 53)];
 let q4 := List.getD (ae aq (ah aq S)) t.toNat (Tb.mk [] [] [] false);
 let q8 : List Prop := [0 <= t /\ t < (↑x.ar.length : Int), List.take 1 (List.drop (t.toNat * 1) (ah aI x.ar)) = [ab av q5]];
 let q9 : List V := [aa q.id, ab a7 q.cells];
 let bD := IntKind.i64.wrap (i + 1); .ag q8 (bif decide (i < (↑q5.length : Int)) then .ag q8 (.ag [0 <= i /\ i < (↑q5.length : Int), List.take 2 (List.drop (i.toNat * 2) (ah av q5)) = q9] (.ag [0 <= t /\ t < (↑S.length : Int),
  List.take 4 (List.drop (t.toNat * 4) (ah aq S)) = (aq q4)] (.bind (cE (bw q4.name (ah ba q4.aw) (ah aN q4.uniq) q4.root) q6 (ae aH (ah aH o.bC))) fun y0 => .ag [ao Tryz.prog 117 [.agg (aq
  q4), .agg q9, ab aH o.bC] [] (aj.mk (.bool y0) [] [])] (bif !y0 then .done (Ex.normal, St.mk (ai 96 [(0, .ptr 0 0), (2, aa t), (3, ab aT l), (5, .ptr 1 0), (8, .ptr 2 0), (9, aa n), (10, .bool a), (11, aa bD)]) q1 [])
  else .bind (a && mg (List.getD S t.toNat (Tb.mk [] [] [] false)) q6 l) fun y1 => .ag [St.mk q2 [some ([ab aq S, ab aI x.ar, aa x.next, ab aY ops, ab aN ids, ab aW ow], 183), some (aY o, 178), some
  (q7, 185), some (q9, 53)] [] = St.mk q2 q3 [], aV Tryz.prog 1 (blk Tryz.prog nn 2) (St.mk q2 q3 []) (Ex.exit 2) (St.mk (ai 96 [(0, .ptr 0 0), (2, aa t), (3, ab aT l), (5, .ptr 1 0), (8, .ptr 2 0), (9, aa br), (10, .bool
  y1), (11, aa i)]) q1 [])] (.done (Ex.normal, St.mk (ai 96 [(0, .ptr 0 0), (2, aa t), (3, ab aT l), (5, .ptr 1 0), (8, .ptr 2 0), (9, aa br), (10, .bool y1), (11, aa bD)]) q1 [])))))) else .done (Ex.exit 0, St.mk (ai 96
  [(5, .ptr 1 0), (8, .ptr 2 0), (9, aa n), (10, .bool a)]) q1 [])) : T _) := (T.force_eq _).symm.trans (by kernel_rfl)
theorem wtT (S : aS) (x : aM) (ops : List Op') (ids : List Int) (ow : List (List UInt8)) (o : Op') (t : Int) (l : List Sx) : fnT (uC S x ops ids ow o t l) 0 nn [.ptr 0 0, .agg (aY o), .int .i64 t, ab aT l] [wB S x ops ids ow] = (
 let q : Hp := [some ([ab aq S, ab aI x.ar, aa x.next, ab aY ops, ab aN ids, ab aW ow], 183), some (aY o, 178), some ([aa 0, aa 0, aa 0, .dsl 0 true [], .dsl 0 true []], 185)];
 let q1 : Hp := [some ([ab aq S, ab aI x.ar, aa x.next, ab aY ops, ab aN ids, ab aW ow], 183)];
 let q2 := ai 96 [(0, .ptr 0 0), (2, aa t), (3, ab aT l), (5, .ptr 1 0), (8, .ptr 2 0), (9, aa 0), (10, .bool true), (11, aa 0)];
 let q3 := aj.mk (.agg [aa 15, aa 0, aa 0, .dsl 0 false [], .dsl 0 false []]) q1 [];
 let q4 := aj.mk (.agg [aa 0, aa 0, aa 0, .dsl 0 false [], .dsl 0 false []]) q1 []; .bind (mX (List.getD S t.toNat (Tb.mk [] [] [] false)) o.bC l (List.getD x.ar t.toNat []) 0 true) fun y0 => .ag [St.mk q2 q [] = St.mk q2 q [],
  aV Tryz.prog 1 (blk Tryz.prog nn 0) (St.mk q2 q []) (Ex.exit 0) (St.mk (ai 96 [(5, .ptr 1 0), (8, .ptr 2 0), (9, aa (↑y0.1 : Int)), (10, .bool y0.2)]) q [])] (bif decide ((↑y0.1 : Int) > 0) then bif !y0.2 == o.iO then .done
  q3 else .done q4 else bif !false == o.iO then .done q3 else .done q4) : T _) := (T.force_eq _).symm.trans (by kernel_rfl)
variable {S x ops ids ow}
theorem NC (hS : ∀ t ∈ S, t.aw.length <= 1048576) {o : Op'} {t : Nat} (ht : t < S.length) {l : List Sx} (hl : ∀ m ∈ l, 0 <= bf (S.getD t .zero) m.aG) (cC : l.length <= 1048576) (n i : Int) {r : Rw} (hr : ji (S.getD t .zero) r) : ∀ (m k : Nat) (a : Bool), k + m = l.length ->
  a8 Tryz.prog 1 (lp Tryz.prog nn 2) (Fl S x ops ids ow o t l n a i r k) (.exit 2) (w9 S x ops ids ow o t l n (a && mg (S.getD t .zero) r (l.drop k)) i)
 | 0, k, a, hk => by
  have hk : k = l.length := hk
  subst hk
  rw [List.drop_length, show (a && mg (S.getD t .zero) r []) = a by simp [mg]]
  refine bl (E := jg S x ops ids ow) follows named (NF S x ops ids ow o (t : Nat) l n a i r (l.length : Nat)) ?_
  simp only [az, T.WP, All, aB, aC, aA]
  exact ⟨fun h => af, fun _ => ⟨rfl, rfl⟩⟩
 | m + 1, k, a, hk => by
  have dC := bJ.at S .zero t 4 ht rfl
  have pd : k < l.length := af
  have Ip := dX.at l .zero k 3 pd rfl
  have w1 : IntKind.i64.wrap ((k : Int) + 1) = ((k + 1 : Nat) : Int) := bE af
  have hm := hl _ (bP .zero pd)
  have bO := hr.at _ hm
  have qE := bV.at r.cells [] _ 1 bO rfl
  have qH := ou (S.getD t .zero) (l.getD k .zero).aG (hS _ (bP .zero ht))
  have S2 := zQ (r.cells.getD (bf (S.getD t .zero) (l.getD k .zero).aG).toNat []) (l.getD k .zero).val (hr.s.d _ (bP [] bO))
  have ih := fun a => NC (o := o) hS ht hl cC n i hr m (k + 1) a af
  have e : mg (S.getD t .zero) r (l.drop k) = (decide (r.cells.getD (bf (S.getD t .zero) (l.getD k .zero).aG).toNat [] = (l.getD k .zero).val) && mg (S.getD t .zero) r (l.drop (k + 1))) := by
   rw [gh .zero pd]; rfl
  rw [e]
  refine bl (E := jg S x ops ids ow) follows named (NF S x ops ids ow o (t : Nat) l n a i r (k : Nat)) ?_
  simp only [Tb.zero, Sx.zero] at *
  simp only [az, T.WP, All, aB, aC, aA, w1, bJ.ae, dX.ae, bV.ae, bq.ae, cm, Int.toNat_natCast]
  refine ⟨fun _ => ⟨fun ha => ⟨⟨aK, dC⟩, ⟨aK, Ip⟩, ?_⟩, fun ha => ?_⟩, fun h => af⟩
  ·rintro y rfl
   refine ⟨qH, ⟨aK, qE⟩, ⟨aK, Ip⟩, ?_⟩
   rintro y1 rfl
   refine ⟨S2, ?_⟩
   have := ih (decide (r.cells.getD (bf (S.getD t ⟨[], [], [], false⟩) (l.getD k ⟨[], [], []⟩).aG).toNat [] = (l.getD k ⟨[], [], []⟩).val))
   rw [ha, Bool.true_and]
   exact this
  ·have := ih false
   rw [ha, Bool.false_and]
   exact this
theorem FH (hx : iQ S x) {o : Op'} {t : Nat} (ht : t < S.length) (hc : ∀ c ∈ o.bC, j9 c) (hw : o.bC.length <= 1048576) {l : List Sx} (hl : ∀ m ∈ l, 0 <= bf (S.getD t .zero) m.aG) (cC : l.length <= 1048576) : ∀ (m i n : Nat) (a : Bool), i + m = (x.ar.getD t []).length -> n <= i ->
  a8 Tryz.prog 1 (lp Tryz.prog nn 0) (w9 S x ops ids ow o t l n a i) (.exit 0) (NG S x ops ids ow o (mX (S.getD t .zero) o.bC l ((x.ar.getD t []).drop i) n a).1 (mX (S.getD t .zero) o.bC l ((x.ar.getD t []).drop i) n a).2)
 | 0, i, n, a, hi, hn => by
  have fY : t < x.ar.length := by rw [hx.h.n]; exact ht
  have iB := bB.at x.ar [] t 1 fY rfl
  have hi : i = (x.ar.getD t []).length := hi
  subst hi
  rw [List.drop_length]
  refine bl (E := uC S x ops ids ow o (t : Nat) l) follows named (ND S x ops ids ow o (t : Nat) l (n : Nat) a ((x.ar.getD t []).length : Nat)) ?_
  simp only [az, T.WP, All, aB, aC, aA, bB.ae, Int.toNat_natCast]
  exact ⟨⟨aK, iB⟩, fun h => af, fun _ => ⟨rfl, rfl⟩⟩
 | m + 1, i, n, a, hi, hn => by
  have fY : t < x.ar.length := by rw [hx.h.n]; exact ht
  have iB := bB.at x.ar [] t 1 fY rfl
  have dC := bJ.at S .zero t 4 ht rfl
  have bH : i < (x.ar.getD t []).length := af
  have CL := bN.at (x.ar.getD t []) ⟨0, []⟩ i 2 bH rfl
  have hlen := hx.l _ (bP [] fY)
  have w1 : IntKind.i64.wrap ((i : Int) + 1) = ((i + 1 : Nat) : Int) := bE af
  have w2 : IntKind.i64.wrap ((n : Int) + 1) = ((n + 1 : Nat) : Int) := bE af
  have vM := hx.rw ht _ (bP ⟨0, []⟩ bH)
  have ha := Bp vM hc hw
  have h2 := fun n a => NC (x := x) (ops := ops) (ids := ids) (ow := ow) (o := o) (fun t h => (hx.h.k t h).1) ht hl cC n (i : Nat) vM l.length 0 a af
  have eI := FH hx ht hc hw hl cC m (i + 1) (n + 1) (a && mg (S.getD t .zero) ((x.ar.getD t []).getD i ⟨0, []⟩) l) af af
  have DC := FH hx ht hc hw hl cC m (i + 1) n a af af
  have e : mX (S.getD t .zero) o.bC l ((x.ar.getD t []).drop i) n a = bif cE (S.getD t .zero) ((x.ar.getD t []).getD i ⟨0, []⟩) o.bC then mX (S.getD t .zero) o.bC l ((x.ar.getD t []).drop (i + 1)) (n + 1) (a && mg (S.getD t .zero) ((x.ar.getD t []).getD i ⟨0, []⟩) l) else mX (S.getD t .zero) o.bC l ((x.ar.getD t []).drop (i + 1)) n a := by
   rw [gh ⟨0, []⟩ bH]; rfl
  rw [e]
  refine bl (E := uC S x ops ids ow o (t : Nat) l) follows named (ND S x ops ids ow o (t : Nat) l (n : Nat) a (i : Nat)) ?_
  simp only [Tb.zero] at *
  simp only [az, T.WP, All, aB, aC, aA, w1, w2, bB.ae, bJ.ae, bN.ae, cg.ae, bV.ae, cm, Int.toNat_natCast]
  refine ⟨⟨aK, iB⟩, fun _ => ⟨⟨aK, iB⟩, ⟨aK, CL⟩, ⟨aK, dC⟩, ?_⟩, fun h => af⟩
  rintro y rfl
  refine ⟨ha, fun h => ?_, fun h => ?_⟩
  ·have h' : (!cE (S.getD t ⟨[], [], [], false⟩) ((x.ar.getD t []).getD i ⟨0, []⟩) o.bC) = true := h
   rw [show cE (S.getD t ⟨[], [], [], false⟩) ((x.ar.getD t []).getD i ⟨0, []⟩) o.bC = false by simpa using h', cond_false]
   exact DC
  ·have h' : (!cE (S.getD t ⟨[], [], [], false⟩) ((x.ar.getD t []).getD i ⟨0, []⟩) o.bC) = false := h
   rw [show cE (S.getD t ⟨[], [], [], false⟩) ((x.ar.getD t []).getD i ⟨0, []⟩) o.bC = true by simpa using h', cond_true]
   rintro y1 rfl
   exact ⟨⟨bn, .bg (h2 _ _)⟩, eI⟩
theorem ai8 (hx : iQ S x) {o : Op'} {t : Nat} (ht : t < S.length) (hc : ∀ c ∈ o.bC, j9 c) (hw : o.bC.length <= 1048576) {l : List Sx} (hl : ∀ m ∈ l, 0 <= bf (S.getD t .zero) m.aG) (cC : l.length <= 1048576) :
  ao Tryz.prog nn [.ptr 0 0, .agg (aY o), .int .i64 t, ab aT l] [wB S x ops ids ow] ⟨.agg (cZ (xi (S.getD t .zero) (x.ar.getD t []) o l)), [wB S x ops ids ow], []⟩ := by
 have h := FH hx ht hc hw hl cC (ops := ops) (ids := ids) (ow := ow) (x.ar.getD t []).length 0 0 true af af
 rw [List.drop_zero] at h
 unfold xi
 refine bh (E := uC S x ops ids ow o (t : Nat) l) follows named (wtT S x ops ids ow o (t : Nat) l) (by simp) ?_
 simp only [Tb.zero] at *
 simp only [az, T.WP, All, aB, aC, aA, Int.toNat_natCast]
 intro y e
 rw [<- e] at h
 refine ⟨⟨bn, .bg h⟩, fun h0 => ⟨fun h1 => ?_, fun h1 => ?_⟩, fun h0 => ⟨fun h1 => ?_, fun h1 => ?_⟩⟩
 all_goals
  rw [<- e]
  unfold NB
 ·rw [show decide (0 < y.1) = true by simpa using h0, Bool.true_and, show (y.2 != o.iO) = true from h1]; exact aQ
 ·rw [show decide (0 < y.1) = true by simpa using h0, Bool.true_and, show (y.2 != o.iO) = false from h1]; exact aQ
 ·rw [show decide (0 < y.1) = false by simpa using h0, Bool.false_and, show (false != o.iO) = true from h1]; exact aQ
 ·rw [show decide (0 < y.1) = false by simpa using h0, Bool.false_and, show (false != o.iO) = false from h1]; exact aQ
end
def chL (S : aS) (o : Op') (t : Nat) (l : List Sx) : List Int -> aM -> aM × Int
 | [], x => (x, 0)
 | id :: rest, x => bif o.kind == 5 then chL S o t l rest (ik x t (ct (x.ar.getD t []) id).toNat)
  else bif o.kind == 4 then
   (bif (mutRW (S.getD t .zero) o.db ((x.ar.getD t []).getD (ct (x.ar.getD t []) id).toNat ⟨0, []⟩)).2 != 0 then (x, (mutRW (S.getD t .zero) o.db ((x.ar.getD t []).getD (ct (x.ar.getD t []) id).toNat ⟨0, []⟩)).2)
   else chL S o t l rest (il x t (mutRW (S.getD t .zero) o.db ((x.ar.getD t []).getD (ct (x.ar.getD t []) id).toNat ⟨0, []⟩)).1))
  else (bif (setRL (S.getD t .zero) l ((x.ar.getD t []).getD (ct (x.ar.getD t []) id).toNat ⟨0, []⟩)).2 != 0 then (x, (setRL (S.getD t .zero) l ((x.ar.getD t []).getD (ct (x.ar.getD t []) id).toNat ⟨0, []⟩)).2)
   else chL S o t l rest (il x t (setRL (S.getD t .zero) l ((x.ar.getD t []).getD (ct (x.ar.getD t []) id).toNat ⟨0, []⟩)).1))
def sA (S : aS) (x : aM) (o : Op') (t : Nat) (l : List Sx) : aM × dB :=
 ((chL S o t l (bK (S.getD t .zero) (x.ar.getD t []) o.bC) x).1, bif (chL S o t l (bK (S.getD t .zero) (x.ar.getD t []) o.bC) x).2 == 0 then ⟨0, (bK (S.getD t .zero) (x.ar.getD t []) o.bC).length, 0, [], []⟩ else iv (chL S o t l (bK (S.getD t .zero) (x.ar.getD t []) o.bC) x).2)
section
variable (S : aS) (x : aM) (ops : List Op') (ids : List Int) (ow : List (List UInt8))
def EV (o : Op') (t : Int) (l : List Sx) (js : List Int) (i : Int) : St := ⟨ai 134 [(0, .ptr 0 0), (2, .int .i64 t), (3, ab aT l), (5, .ptr 1 0), (8, .ptr 2 0), (9, ab aN js), (10, .int .i64 i)], [wB S x ops ids ow, some (aY o, gM), some (kD, fg)], [0]⟩
def GO (js : List Int) : St := ⟨ai 134 [(8, .ptr 1 0), (9, ab aN js)], [wB S x ops ids ow, some (kD, fg)], [0]⟩
def GM (c : Int) : St := ⟨ai 134 [(8, .ptr 1 0)], [wB S x ops ids ow, some ([.int .i64 c, .int .i64 0, .int .i64 0, .dsl 0 true [], .dsl 0 true []], fg)], [0]⟩
def Wp : Ex -> Kp := fun ex => match ex with
 | .normal => { keep := [0, 2, 3, 5, 8, 9, 10], wr := [0] }
 | .ret => { keep := [8], wr := [0] }
 | _ => { keep := [8, 9], wr := [0] }
theorem GN (S : aS) (x : aM) (ops : List Op') (ids : List Int) (ow : List (List UInt8)) (o : Op') (t : Int) (l : List Sx) (js : List Int) (i : Int) : bx (jg S x ops ids ow) 1 Wp (lp Tryz.prog qn 0) (EV S x ops ids ow o t l js i) = (
 let bD := ah aI x.ar;
 let q := List.getD (ae aI bD) t.toNat [];
 let q1 := List.getD (ae aq (ah aq S)) t.toNat (Tb.mk [] [] [] false);
 let q2 := ai 134 [(0, .ptr 0 0), (2, aa t), (3, ab aT l), (5, .ptr 1 0), (8, .ptr 2 0), (9, ab aN js), (10, aa (IntKind.i64.wrap (i + 1)))];
 let q3 := ae av (ah av q);
 let q4 : List Prop := [0 <= t /\ t < (↑x.ar.length : Int), List.take 1 (List.drop (t.toNat * 1) bD) = [ab av q]];
 let q5 : List V := [aa 0, aa 0, aa 0, .dsl 0 true [], .dsl 0 true []];
 let q6 := Rw.mk (0 : Int) [];
 let q7 := List.getD (ae aN (ah aN js)) i.toNat (0 : Int);
 let q8 := aM.mk (ae aI bD) x.next;
 let q9 : List Prop := [0 <= t /\ t < (↑S.length : Int), List.take 4 (List.drop (t.toNat * 4) (ah aq S)) = (aq q1)];
 let br := bw q1.name (ah ba q1.aw) (ah aN q1.uniq) q1.root; bif decide (i < (↑js.length : Int)) then .ag q4 (.ag [0 <= i /\ i < (↑js.length : Int), List.take 1 (List.drop (i.toNat * 1) (ah aN js)) = [aa q7]]
  (.bind (ct q3 q7) fun y0 =>
 let bL := List.getD q3 y0.toNat q6;
 let cU : List V := [aa bL.id, ab a7 bL.cells];
 let ca : List Prop := [0 <= y0 /\ y0 < (↑q.length : Int), List.take 2 (List.drop (y0.toNat * 2) (ah av q)) = cU];
 let eC := Rw.mk bL.id (ae a7 (ah a7 bL.cells)); .ag [ao Tryz.prog 140 [ab av q, aa q7] [] (aj.mk (aa y0) [] [])] (bif o.kind == 5 then .bind (ik q8 t.toNat y0.toNat) fun y1 => .ag [ao Tryz.prog 139
  [.agg (aP x), aa t, aa y0] [] (aj.mk (.agg (aP y1)) [] [])] (.done (Ex.normal, St.mk q2 [some ([ab aq S, ab aI y1.ar, aa y1.next, ab aY ops, ab aN ids, ab aW ow], 183), some (aY o, 178), some
  (q5, 185)] [0])) else .ag q9 (.ag q4 (.ag ca (.bind (setRL br (ae aT (ah aT l)) eC) fun y2 => .ag [ao Tryz.prog 256 [.agg (aq q1), .agg cU, ab aT l] [] (aj.mk (.tup [.agg (av y2.1), aa y2.2]) [] [])]
  (bif o.kind == 4 then .ag q9 (.ag q4 (.ag ca (.bind (mutRW br (ae b8 (ah b8 o.db)) eC) fun y3 => .ag [ao Tryz.prog 258 [.agg (aq q1), .agg cU, ab b8 o.db] [] (aj.mk (.tup [.agg (av y3.1), aa
  y3.2]) [] [])] (bif y3.2 != 0 then .done (Ex.ret, St.mk (ai 134 [(8, .ptr 1 0)]) [some ([ab aq S, ab aI x.ar, aa x.next, ab aY ops, ab aN ids, ab aW ow], 183), some ([aa y3.2, aa 0, aa 0, .dsl 0 true [],
  .dsl 0 true []], 185)] [0]) else .bind (il q8 t.toNat (Rw.mk y3.1.id (ae a7 (ah a7 y3.1.cells)))) fun y4 => .ag [ao Tryz.prog 131 [.agg (aP x), aa t, .agg (av y3.1)] [] (aj.mk (.agg (aP y4)) [] [])]
  (.done (Ex.normal, St.mk q2 [some ([ab aq S, ab aI y4.ar, aa y4.next, ab aY ops, ab aN ids, ab aW ow], 183), some (aY o, 178), some (q5, 185)] [0])))))) else bif y2.2 != 0 then .done (Ex.ret, St.mk (ai
  134 [(8, .ptr 1 0)]) [some ([ab aq S, ab aI x.ar, aa x.next, ab aY ops, ab aN ids, ab aW ow], 183), some ([aa y2.2, aa 0, aa 0, .dsl 0 true [], .dsl 0 true []], 185)] [0]) else .bind (il q8 t.toNat
  (Rw.mk y2.1.id (ae a7 (ah a7 y2.1.cells)))) fun y5 => .ag [ao Tryz.prog 131 [.agg (aP x), aa t, .agg (av y2.1)] [] (aj.mk (.agg (aP y5)) [] [])] (.done (Ex.normal, St.mk q2 [some ([ab aq S, ab aI
  y5.ar, aa y5.next, ab aY ops, ab aN ids, ab aW ow], 183), some (aY o, 178), some (q5, 185)] [0]))))))))) else .done (Ex.exit 0, St.mk (ai 134 [(8, .ptr 1 0), (9, ab aN js)]) [some ([ab aq S, ab aI
  x.ar, aa x.next, ab aY ops, ab aN ids, ab aW ow], 183), some (q5, 185)] [0]) : T _) := by kernel_rfl
noncomputable def Uz (o : Op') (t : Int) (l : List Sx) : Nat -> St -> Option bT := fun id s => match id, s.tm.get 9, s.tm.get 10 with
 | 0, .dsl _ _ cs, .int _ 0 => some ⟨chL S o t.toNat l (ae aN cs) x, fun y => .two { keep := [0, 2, 3, 5, 8, 9, 10], wr := [0] } (EV S x ops ids ow o t l (ae aN cs) 0) (y.2 == 0) (.exit 0) (GO S y.1 ops ids ow (ae aN cs)) .ret (GM S y.1 ops ids ow y.2)⟩
 | _, _, _ => none
noncomputable def FJ (o : Op') (t : Int) (l : List Sx) : Env := { P := Tryz.prog, vw := cq, res := tR S x ops ids ow, ls := Uz S x ops ids ow o t l }
theorem OQ (S : aS) (x : aM) (ops : List Op') (ids : List Int) (ow : List (List UInt8)) (o : Op') (t : Int) (l : List Sx) : fnT (FJ S x ops ids ow o t l) 0 qn [.ptr 0 0, .agg (aY o), .int .i64 t, ab aT l] [wB S x ops ids ow] = (
 let q3 : List V := [aa 0, aa 0, aa 0, .dsl 0 true [], .dsl 0 true []];
 let q : Hp := [some ([ab aq S, ab aI x.ar, aa x.next, ab aY ops, ab aN ids, ab aW ow], 183), some (aY o, 178), some (q3, 185)];
 let q1 := List.getD (ae aq (ah aq S)) t.toNat (Tb.mk [] [] [] false);
 let q4 := ah aI x.ar;
 let q2 := List.getD (ae aI q4) t.toNat []; .ag [0 <= t /\ t < (↑S.length : Int), List.take 4 (List.drop (t.toNat * 4) (ah aq S)) = (aq q1)] (.ag [0 <= t /\ t < (↑x.ar.length : Int), List.take 1 (List.drop (t.toNat * 1)
  q4) = [ab av q2]] (.bind (bK (bw q1.name (ah ba q1.aw) (ah aN q1.uniq) q1.root) (ae av (ah av q2)) (ae aH (ah aH o.bC))) fun y0 =>
 let q6 := ae aN (ah aN y0);
 let q5 := ai 134 [(0, .ptr 0 0), (2, aa t), (3, ab aT l), (5, .ptr 1 0), (8, .ptr 2 0), (9, ab aN q6), (10, aa 0)]; .ag [ao Tryz.prog 53 [.agg (aq q1), ab av q2, ab aH o.bC] [] (aj.mk (ab aN y0) []
  [])] (.bind (chL S o t.toNat l q6 x) fun y1 =>
 let q8 := y1.1.ar;
 let q9 := y1.1.next;
 let q7 : Hp := [some ([ab aq S, ab aI q8, aa q9, ab aY ops, ab aN ids, ab aW ow], 183)]; .ag [St.mk (ai 134 [(0, .ptr 0 0), (2, aa t), (3, ab aT l), (5, .ptr 1 0), (8, .ptr 2 0), (9, ab aN y0), (10,
  aa 0)]) q [0] = St.mk q5 q [0]] (bif y1.2 == 0 then .ag [aV Tryz.prog 1 (blk Tryz.prog qn 0) (St.mk q5 q [0]) (Ex.exit 0) (St.mk (ai 134 [(8, .ptr 1 0), (9, ab aN q6)]) [some ([ab aq S, ab aI q8, aa q9, ab
  aY ops, ab aN ids, ab aW ow], 183), some (q3, 185)] [0])] (.done (aj.mk (.agg [aa 0, aa (↑q6.length : Int), aa 0, .dsl 0 false [], .dsl 0 false []]) q7 [0])) else .ag [aV Tryz.prog 1 (blk Tryz.prog qn 0) (St.mk
  q5 q [0]) Ex.ret (St.mk (ai 134 [(8, .ptr 1 0)]) [some ([ab aq S, ab aI q8, aa q9, ab aY ops, ab aN ids, ab aW ow], 183), some ([aa y1.2, aa 0, aa 0, .dsl 0 true [], .dsl 0 true []], 185)] [0])] (.done
  (aj.mk (.agg [aa y1.2, aa 0, aa 0, .dsl 0 false [], .dsl 0 false []]) q7 [0])))))) : T _) := (T.force_eq _).symm.trans (by kernel_rfl)
variable {S x ops ids ow}
def ot (S : aS) (o : Op') (t : Nat) (l : List Sx) : List Int -> aM -> Prop
 | [], _ => True
 | id :: rest, x => iQ S x /\ 0 <= ct (x.ar.getD t []) id /\
  (o.kind = 5 -> ot S o t l rest (ik x t (ct (x.ar.getD t []) id).toNat)) /\
  (o.kind = 4 -> (mutRW (S.getD t .zero) o.db ((x.ar.getD t []).getD (ct (x.ar.getD t []) id).toNat ⟨0, []⟩)).2 = 0 -> ir (mutRW (S.getD t .zero) o.db ((x.ar.getD t []).getD (ct (x.ar.getD t []) id).toNat ⟨0, []⟩)).1 /\ ot S o t l rest (il x t (mutRW (S.getD t .zero) o.db ((x.ar.getD t []).getD (ct (x.ar.getD t []) id).toNat ⟨0, []⟩)).1)) /\
  (o.kind ≠ 5 -> o.kind ≠ 4 -> (setRL (S.getD t .zero) l ((x.ar.getD t []).getD (ct (x.ar.getD t []) id).toNat ⟨0, []⟩)).2 = 0 -> ir (setRL (S.getD t .zero) l ((x.ar.getD t []).getD (ct (x.ar.getD t []) id).toNat ⟨0, []⟩)).1 /\ ot S o t l rest (il x t (setRL (S.getD t .zero) l ((x.ar.getD t []).getD (ct (x.ar.getD t []) id).toNat ⟨0, []⟩)).1))
def mh (c : Int) : Ex := bif c == 0 then .exit 0 else .ret
def x3 (S : aS) (ops : List Op') (ids : List Int) (ow : List (List UInt8)) (js : List Int) (r : aM × Int) : St := bif r.2 == 0 then GO S r.1 ops ids ow js else GM S r.1 ops ids ow r.2
theorem iQ.ZG (hx : iQ S x) {t : Nat} (ht : t < S.length) {r : Rw} (hr : r ∈ x.ar.getD t []) : od (S.getD t .zero) r :=
 ⟨(hx.rw ht r hr).n, hx.d _ (bP [] (by rw [hx.h.n]; exact ht)) r hr⟩
theorem GP {o : Op'} {t : Nat} (ht : t < S.length) {l : List Sx} (hl : ∀ m ∈ l, m.val.length <= 1000 /\ 0 <= bf (S.getD t .zero) m.aG) (cC : l.length <= 1048576) (hm : ∀ m ∈ o.db, p6 m /\ 0 <= bf (S.getD t .zero) m.aG) (vC : o.db.length <= 1048576) (js : List Int) (hj : js.length <= 1048576) : ∀ (m i : Nat) (x : aM), i + m = js.length -> ot S o t l (js.drop i) x ->
  a8 Tryz.prog 1 (lp Tryz.prog qn 0) (EV S x ops ids ow o t l js i) (mh (chL S o t l (js.drop i) x).2) (x3 S ops ids ow js (chL S o t l (js.drop i) x))
 | 0, i, x, hi, _ => by
  have hi : i = js.length := hi
  subst hi
  rw [List.drop_length]
  refine bl (E := jg S x ops ids ow) follows named (GN S x ops ids ow o (t : Nat) l js (js.length : Nat)) ?_
  simp only [az, T.WP, All, aB, aC, aA, aD, aE, aF]
  exact ⟨fun h => af, fun _ => ⟨rfl, rfl⟩⟩
 | m + 1, i, x, hi, hp => by
  have bH : i < js.length := af
  have oW := ej.at js 0 i 1 bH rfl
  rw [gh 0 bH] at hp ⊢
  generalize hid : js.getD i 0 = id at *
  obtain ⟨hx, h0, SM, qO, qN⟩ := hp
  have fY : t < x.ar.length := by rw [hx.h.n]; exact ht
  have iB := bB.at x.ar [] t 1 fY rfl
  have dC := bJ.at S .zero t 4 ht rfl
  have hlen := hx.l _ (bP [] fY)
  have gq : (ct (x.ar.getD t []) id).toNat < (x.ar.getD t []).length := (s7 (p := fun r : Rw => r.id == id) Rw.zero h0).1
  have oX : ((ct (x.ar.getD t []) id).toNat : Int) = ct (x.ar.getD t []) id := Int.toNat_of_nonneg h0
  have Iq := bN.at (x.ar.getD t []) ⟨0, []⟩ _ 2 gq rfl
  have SN := En (x.ar.getD t []) id af
  have hM := hx.ZG ht (bP ⟨0, []⟩ gq)
  have hZ := hx.m _ (bP .zero ht)
  have SZ := Mz hZ hM hl cC
  have IW := Zz hZ hM hm vC
  have yJ := Hm hx.h.s t _ fY gq
  rw [oX] at yJ
  have vJ := fun r hr => Lv hx.h.s t r hr fY af
  have w1 : IntKind.i64.wrap ((i : Int) + 1) = ((i + 1 : Nat) : Int) := bE af
  have ih := fun x hp => GP ht hl cC hm vC js hj m (i + 1) x af hp
  rw [chL]
  refine bl (E := jg S x ops ids ow) follows named (GN S x ops ids ow o (t : Nat) l js (i : Nat)) ?_
  simp only [Tb.zero] at *
  generalize dL : (x.ar.getD t []).getD (ct (x.ar.getD t []) id).toNat ⟨0, []⟩ = row at *
  simp only [az, T.WP, All, aB, aC, aA, aD, aE, aF, w1, bB.ae, bJ.ae, bN.ae, dX.ae, cg.ae, bV.ae, ej.ae, cm, Int.toNat_natCast, hid]
  refine ⟨fun _ => ⟨⟨aK, iB⟩, ⟨aK, oW⟩, ?_⟩, fun h => af⟩
  rintro y rfl
  simp only [dL]
  refine ⟨SN, fun h5 => ?_, fun h5 => ⟨⟨aK, dC⟩, ⟨aK, iB⟩, ⟨aK, Iq⟩, ?_⟩⟩
  ·rintro y1 rfl
   rw [show (o.kind == 5) = true by simpa using h5, cond_true]
   exact ⟨yJ, ih _ (SM (by simpa using h5))⟩
  ·rintro y2 e2
   rw [show (o.kind == 5) = false by simpa using h5, cond_false]
   have n5 : o.kind ≠ 5 := by simpa using h5
   refine ⟨by rw [e2]; exact SZ, fun h4 => ⟨⟨aK, dC⟩, ⟨aK, iB⟩, ⟨aK, Iq⟩, ?_⟩, fun h4 => ?_⟩
   ·rw [show (o.kind == 4) = true by simpa using h4, cond_true]
    have qO := qO (by simpa using h4)
    rintro y3 e3
    have e3 : y3 = mutRW (S.getD t ⟨[], [], [], false⟩) o.db row := e3
    rw [<- e3] at IW qO ⊢
    refine ⟨IW, fun h => ?_, fun h => ?_⟩
    ·rw [h, cond_true]
     have hb : (y3.2 == 0) = false := by simpa [bne] using h
     unfold mh x3
     simp only [hb, cond_false]
     exact ⟨rfl, rfl⟩
    ·rw [h, cond_false]
     have qO := qO (by simpa using h)
     rintro y4 rfl
     exact ⟨vJ _ qO.1, ih _ qO.2⟩
   ·rw [show (o.kind == 4) = false by simpa using h4, cond_false]
    have qN := qN n5 (by simpa using h4)
    have e2 : y2 = setRL (S.getD t ⟨[], [], [], false⟩) l row := e2
    rw [<- e2] at qN ⊢
    refine ⟨fun h => ?_, fun h => ?_⟩
    ·rw [h, cond_true]
     have hb : (y2.2 == 0) = false := by simpa [bne] using h
     unfold mh x3
     simp only [hb, cond_false]
     exact ⟨rfl, rfl⟩
    ·rw [h, cond_false]
     have qN := qN (by simpa using h)
     rintro y4 rfl
     exact ⟨vJ _ qN.1, ih _ qN.2⟩
theorem OT (hx : iQ S x) {o : Op'} {t : Nat} (ht : t < S.length) (hc : ∀ c ∈ o.bC, j9 c) (hw : o.bC.length <= 1048576) {l : List Sx} (hl : ∀ m ∈ l, m.val.length <= 1000 /\ 0 <= bf (S.getD t .zero) m.aG) (cC : l.length <= 1048576) (hm : ∀ m ∈ o.db, p6 m /\ 0 <= bf (S.getD t .zero) m.aG) (vC : o.db.length <= 1048576)
  (hp : ot S o t l (bK (S.getD t .zero) (x.ar.getD t []) o.bC) x) :
  ao Tryz.prog qn [.ptr 0 0, .agg (aY o), .int .i64 t, ab aT l] [wB S x ops ids ow] ⟨.agg (cZ (sA S x o t l).2), [wB S (sA S x o t l).1 ops ids ow], [0]⟩ := by
 have fY : t < x.ar.length := by rw [hx.h.n]; exact ht
 have iB := bB.at x.ar [] t 1 fY rfl
 have dC := bJ.at S .zero t 4 ht rfl
 have hlen := hx.l _ (bP [] fY)
 have S0 := My (hx.rw ht) hc hw af
 have hle := wm (S.getD t .zero) (x.ar.getD t []) o.bC
 have h := GP ht hl cC hm vC (bK (S.getD t .zero) (x.ar.getD t []) o.bC) af (ops := ops) (ids := ids) (ow := ow) (bK (S.getD t .zero) (x.ar.getD t []) o.bC).length 0 x af (by rw [List.drop_zero]; exact hp)
 rw [List.drop_zero] at h
 unfold sA
 refine bh (E := FJ S x ops ids ow o (t : Nat) l) follows named (OQ S x ops ids ow o (t : Nat) l) (by simp) ?_
 simp only [Tb.zero] at *
 generalize hj : bK (S.getD t ⟨[], [], [], false⟩) (x.ar.getD t []) o.bC = js at *
 simp only [az, T.WP, All, aA, aD, aE, aF, bB.ae, bJ.ae, bN.ae, cg.ae, ej.ae, cm, Int.toNat_natCast]
 refine ⟨⟨aK, dC⟩, ⟨aK, iB⟩, ?_⟩
 rw [hj]
 rintro y0 rfl
 refine ⟨S0, ?_⟩
 rintro y e
 have e : y = chL S o t l y0 x := e
 rw [<- e] at h ⊢
 unfold mh x3 at h
 refine ⟨bn, fun h1 => ⟨.bg ?_, ?_⟩, fun h1 => ⟨.bg ?_, ?_⟩⟩
 ·rw [show (y.2 == 0) = true by simpa using h1] at h
  exact h
 ·rw [show (y.2 == 0) = true by simpa using h1]; exact aQ
 ·rw [show (y.2 == 0) = false by simpa using h1] at h
  exact h
 ·rw [show (y.2 == 0) = false by simpa using h1]; exact aQ
end
abbrev nc : Nat := 156
section
variable (S : aS) (x : aM) (ops : List Op') (ids : List Int) (ow : List (List UInt8))
def BN (i t : Nat) (o : Op') (l : List Sx) : aM × dB :=
 bif o.kind == 1 then pn S x ops ids i t l
 else bif o.kind == 2 then (x, wk (S.getD t .zero) (x.ar.getD t []) o)
 else bif o.kind == 6 then (x, xi (S.getD t .zero) (x.ar.getD t []) o l)
 else sA S x o t l
def dT (i : Nat) : aM × dB :=
 bif gK S (ops.getD i .zero) != 0 then (x, iv (gK S (ops.getD i .zero)))
 else bif (ops.getD i .zero).kind == 7 || (ops.getD i .zero).kind == 9 then (x, iv 0)
 else bif (ops.getD i .zero).kind == 8 then (x, iv 16)
 else bif (ops.getD i .zero).kind == 10 then (x, bif ow.any (fun w => w == (ops.getD i .zero).name) then iv 0 else iv 14)
 else bif (gy ops ids (ops.getD i .zero).row).2 != 0 then (x, iv (gy ops ids (ops.getD i .zero).row).2)
 else BN S x ops ids i (cV S (ops.getD i .zero).table).toNat (ops.getD i .zero) (gy ops ids (ops.getD i .zero).row).1
noncomputable def Ev : cP := fun f vs hp =>
 bif Nat.beq f ni then (match vs with | [.ptr 0 0, .int _ i, .int _ t, .dsl _ _ qs] => some ⟨pn S x ops ids i.toNat t.toNat (ae aT qs), fun y => ⟨.agg (cZ y.2), [wB S y.1 ops ids ow], [0]⟩⟩ | _ => none) else
 bif Nat.beq f mw then (match vs with | [.ptr 0 0, .agg [.int _ kd, .str tn, .str nm, .dsl _ _ ws, .dsl _ _ rs, .dsl _ _ ms, .dsl _ _ os, .bool tl], .int _ t] => some ⟨wk (S.getD t.toNat .zero) (x.ar.getD t.toNat []) (rh kd tn nm ws rs ms os tl), fun y => ⟨.agg (cZ y), [wB S x ops ids ow], []⟩⟩ | _ => none) else
 bif Nat.beq f nn then (match vs with | [.ptr 0 0, .agg [.int _ kd, .str tn, .str nm, .dsl _ _ ws, .dsl _ _ rs, .dsl _ _ ms, .dsl _ _ os, .bool tl], .int _ t, .dsl _ _ qs] => some ⟨xi (S.getD t.toNat .zero) (x.ar.getD t.toNat []) (rh kd tn nm ws rs ms os tl) (ae aT qs), fun y => ⟨.agg (cZ y), [wB S x ops ids ow], []⟩⟩ | _ => none) else
 bif Nat.beq f qn then (match vs with | [.ptr 0 0, .agg [.int _ kd, .str tn, .str nm, .dsl _ _ ws, .dsl _ _ rs, .dsl _ _ ms, .dsl _ _ os, .bool tl], .int _ t, .dsl _ _ qs] => some ⟨sA S x (rh kd tn nm ws rs ms os tl) t.toNat (ae aT qs), fun y => ⟨.agg (cZ y.2), [wB S y.1 ops ids ow], [0]⟩⟩ | _ => none) else tR S x ops ids ow f vs hp
noncomputable def FM : Env := { P := Tryz.prog, vw := cq, res := Ev S x ops ids ow }
def wy (o : Op') (k : Int) : St := ⟨ai 105 [(0, .ptr 0 0), (4, .ptr 1 0), (5, .ptr 2 0), (7, .int .i64 k)], [wB S x ops ids ow, some (kD, fg), some (aY o, gM)], []⟩
def BO : St := ⟨ai 105 [(4, .ptr 1 0)], [wB S x ops ids ow, some (kD, fg)], []⟩
def BM : St := ⟨ai 105 [(4, .ptr 1 0)], [wB S x ops ids ow, some ([.int .i64 0, .int .i64 0, .int .i64 0, .dsl 0 true [], .dsl 0 true []], fg)], []⟩
def J6 : Ex -> Kp := fun ex => match ex with
 | .normal => { keep := [0, 4, 5, 7] }
 | _ => { keep := [4] }
theorem PZ (S : aS) (x : aM) (ops : List Op') (ids : List Int) (ow : List (List UInt8)) (o : Op') (k : Int) : bx (FM S x ops ids ow) 1 J6 (lp Tryz.prog nc 1) (wy S x ops ids ow o k) = (
 let q1 : List V := [aa 0, aa 0, aa 0, .dsl 0 true [], .dsl 0 true []];
 let q : Hp := [some ([ab aq S, ab aI x.ar, aa x.next, ab aY ops, ab aN ids, ab aW ow], 183), some (q1, 185)];
 let q2 := ah aW ow;
 let q3 := ai 105 [(4, .ptr 1 0)]; bif decide (k < (↑ow.length : Int)) then .ag [0 <= k /\ k < (↑ow.length : Int), List.take 1 (List.drop (k.toNat * 1) q2) = [.str (List.getD (ae aW q2) k.toNat [])]] (bif List.getD (ae aW
  q2) k.toNat [] == o.name then .done (Ex.ret, St.mk q3 q []) else .done (Ex.normal, St.mk (ai 105 [(0, .ptr 0 0), (4, .ptr 1 0), (5, .ptr 2 0), (7, aa (IntKind.i64.wrap (k + 1)))]) [some ([ab aq S, ab aI x.ar, aa x.next,
  ab aY ops, ab aN ids, ab aW ow], 183), some (q1, 185), some (aY o, 178)] [])) else .done (Ex.exit 1, St.mk q3 q []) : T _) := by kernel_rfl
noncomputable def UD (o : Op') : Nat -> St -> Option bT := fun id _ => match id with
 | 1 => some ⟨ow.any (fun w => w == o.name), fun y => .two { keep := [0, 4, 5, 7] } (wy S x ops ids ow o 0) y .ret (BM S x ops ids ow) (.exit 1) (BO S x ops ids ow)⟩
 | _ => none
noncomputable def FK (o : Op') : Env := { P := Tryz.prog, vw := cq, res := Ev S x ops ids ow, ls := UD S x ops ids ow o }
theorem P0 (S : aS) (x : aM) (ops : List Op') (ids : List Int) (ow : List (List UInt8)) (i : Int) : fnT (FK S x ops ids ow (ops.getD i.toNat .zero)) 0 nc [.ptr 0 0, .int .i64 i] [wB S x ops ids ow] = (
 let q8 := Op'.mk (0 : Int) [] [] [] [] [] [] false;
 let q := List.getD (ae aY (ah aY ops)) i.toNat q8;
 let q1 : Hp := [some ([ab aq S, ab aI x.ar, aa x.next, ab aY ops, ab aN ids, ab aW ow], 183)];
 let q7 : List V := [aa 0, aa 0, aa 0, .dsl 0 true [], .dsl 0 true []];
 let q2 : Hp := [some ([ab aq S, ab aI x.ar, aa x.next, ab aY ops, ab aN ids, ab aW ow], 183), some (q7, 185), some (aY (List.getD ops i.toNat q8), 178)];
 let q3 := rh q.kind q.table q.name (ah aH q.bC) (ah aT q.row) (ah b8 q.db) (ah aW q.aw) q.iO;
 let q4 := St.mk (ai 105 [(4, .ptr 1 0)]) [some ([ab aq S, ab aI x.ar, aa x.next, ab aY ops, ab aN ids, ab aW ow], 183), some (q7, 185)] [];
 let q5 := ai 105 [(0, .ptr 0 0), (4, .ptr 1 0), (5, .ptr 2 0), (7, aa 0)];
 let q6 := aj.mk (.agg [aa 0, aa 0, aa 0, .dsl 0 false [], .dsl 0 false []]) q1 [];
 let q9 := ae aq (ah aq S); .ag [0 <= i /\ i < (↑ops.length : Int), List.take 8 (List.drop (i.toNat * 8) (ah aY ops)) = aY q] (.bind (gK q9 q3) fun y0 => .ag [ao Tryz.prog 222 [.agg [ab aq S], .agg (aY q)] []
  (aj.mk (aa y0) [] [])] (bif y0 != 0 then .done (aj.mk (.agg [aa y0, aa 0, aa 0, .dsl 0 false [], .dsl 0 false []]) q1 []) else bif q.kind == 7 then .done q6 else bif q.kind == 9 then .done q6 else bif q.kind == 8 then .done
  (aj.mk (.agg [aa 16, aa 0, aa 0, .dsl 0 false [], .dsl 0 false []]) q1 []) else bif q.kind == 10 then .bind (List.any ow fun w => w == Op'.name (List.getD ops i.toNat Op'.zero)) fun y1 => .ag [St.mk q5 [some ([ab aq S, ab
  aI x.ar, aa x.next, ab aY ops, ab aN ids, ab aW ow], 183), some (q7, 185), some (aY q, 178)] [] = St.mk q5 q2 []] (bif y1 then .ag [aV Tryz.prog 1 (blk Tryz.prog nc 1) (St.mk q5 q2 []) Ex.ret q4] (.done
  q6) else .ag [aV Tryz.prog 1 (blk Tryz.prog nc 1) (St.mk q5 q2 []) (Ex.exit 1) q4] (.done (aj.mk (.agg [aa 14, aa 0, aa 0, .dsl 0 false [], .dsl 0 false []]) q1 []))) else .bind (cV q9 q.table) fun y2 =>
 let br := y2.toNat;
 let bD := List.getD S br (Tb.mk [] [] [] false);
 let bL := List.getD x.ar br []; .ag [ao Tryz.prog 113 [.agg [ab aq S], .str q.table] [] (aj.mk (aa y2) [] [])] (.bind (gy ops ids (ae aT (ah aT q.row))) fun y3 =>
 let ca := ae aT (ah aT y3.1);
 let cU : List V := [.ptr 0 0, .agg (aY q), aa y2, ab aT y3.1]; .ag [ao Tryz.prog 223 [.ptr 0 0, ab aT q.row] q1 (aj.mk (.tup [ab aT y3.1, aa y3.2]) q1 [])] (bif y3.2 != 0 then .done (aj.mk (.agg [aa y3.2, aa 0,
  aa 0, .dsl 0 false [], .dsl 0 false []]) q1 []) else bif q.kind == 1 then .bind (pn S x ops ids i.toNat br ca) fun y4 =>
 let eC := aj.mk (.agg [aa y4.2.code, aa y4.2.count, aa y4.2.id, ab aW y4.2.aw, ab av y4.2.rows]) [some ([ab aq S, ab aI y4.1.ar, aa y4.1.next, ab aY ops, ab aN ids, ab aW ow], 183)] [0]; .ag
  [ao Tryz.prog 224 [.ptr 0 0, aa i, aa y2, ab aT y3.1] q1 eC] (.done eC) else bif q.kind == 2 then .bind (wk bD bL q3) fun y5 =>
 let fA := aj.mk (.agg [aa y5.code, aa y5.count, aa y5.id, ab aW y5.aw, ab av y5.rows]) q1 []; .ag [ao Tryz.prog 225 [.ptr 0 0, .agg (aY q), aa y2] q1 fA] (.done fA) else bif q.kind == 6 then .bind (xi bD bL
  q3 ca) fun y6 =>
 let fB := aj.mk (.agg [aa y6.code, aa y6.count, aa y6.id, ab aW y6.aw, ab av y6.rows]) q1 []; .ag [ao Tryz.prog 226 cU q1 fB] (.done fB) else .bind (sA S x q3 br ca) fun y7 =>
 let jZ := aj.mk (.agg [aa y7.2.code, aa y7.2.count, aa y7.2.id, ab aW y7.2.aw, ab av y7.2.rows]) [some ([ab aq S, ab aI y7.1.ar, aa y7.1.next, ab aY ops, ab aN ids, ab aW ow], 183)] [0]; .ag
  [ao Tryz.prog 227 cU q1 jZ] (.done jZ))))) : T _) := (T.force_eq _).symm.trans (by kernel_rfl)
variable {S x ops ids ow}
theorem P2 (hn : ow.length <= 1048576) (o : Op') :
  (ow.any (fun w => w == o.name) = true -> a8 Tryz.prog 1 (lp Tryz.prog nc 1) (wy S x ops ids ow o 0) .ret (BM S x ops ids ow)) /\
  (ow.any (fun w => w == o.name) = false -> a8 Tryz.prog 1 (lp Tryz.prog nc 1) (wy S x ops ids ow o 0) (.exit 1) (BO S x ops ids ow)) := by
 have e : ow.any (fun w => w == o.name) = !allN (fun j => !(ow.getD j [] == o.name)) ow.length 0 := by
  rw [<- Bool.not_not (ow.any _)]
  congr 1
  rw [List.not_any_eq_all_not]
  exact (om (fun w => !(w == o.name)) [] ow).symm
 rw [e]
 have hs := ij (E := FM S x ops ids ow) (m := 1) (nf := J6) (c := lp Tryz.prog nc 1) (st := fun j => wy S x ops ids ow o (j : Nat)) (n := ow.length) (fun j => !(ow.getD j [] == o.name)) (ex := .exit 1) (ex' := .ret) (sx := BO S x ops ids ow) (sr := BM S x ops ids ow) follows named (by simp) (by simp) (fun j => PZ S x ops ids ow o (j : Nat)) (fun j hj => ?_) ?_ ow.length 0 (by simp)
 ·exact ⟨fun h => hs.2 (by rw [Bool.not_eq_true'] at h; exact h), fun h => hs.1 (by rw [Bool.not_eq_false'] at h; exact h)⟩
 ·have aL := dM.at ow [] j 1 hj rfl
  have w1 : IntKind.i64.wrap ((j : Int) + 1) = ((j + 1 : Nat) : Int) := bE af
  simp only [az, T.WP, All, aB, aC, aA, aD, aE, aF, w1, dM.ae, Int.toNat_natCast]
  refine ⟨fun _ => ⟨⟨aK, aL⟩, fun h => ?_, fun h => ?_⟩, fun h => af⟩
  ·rw [show (ow.getD j [] == o.name) = true by simpa using h]; rfl
  ·rw [show (ow.getD j [] == o.name) = false by simpa using h]; rfl
 ·simp only [az, T.WP, All, aB, aC, aA, aD, aE, aF]
  exact ⟨fun h => af, fun _ => rfl⟩
structure AJ (S : aS) (x : aM) (ops : List Op') (ids : List Int) (i : Nat) (o : Op') : Prop where
 sz : Gd o
 k : 1 <= o.kind /\ o.kind <= 10
 c : o.kind < 7 -> ∀ c ∈ o.bC, j9 c
 r : o.kind < 7 -> ∀ s ∈ o.row, Bj s
 l : o.kind < 7 -> gK S o = 0 -> (gy ops ids o.row).2 = 0 -> (∀ m ∈ (gy ops ids o.row).1, m.val.length <= 1000 /\ 0 <= bf (S.getD (cV S o.table).toNat .zero) m.aG) /\ (gy ops ids o.row).1.length <= 1048576
 m : o.kind < 7 -> gK S o = 0 -> ∀ m ∈ o.db, p6 m /\ 0 <= bf (S.getD (cV S o.table).toNat .zero) m.aG
 p : o.kind = 3 \/ o.kind = 4 \/ o.kind = 5 -> gK S o = 0 -> (gy ops ids o.row).2 = 0 -> ot S o (cV S o.table).toNat (gy ops ids o.row).1 (bK (S.getD (cV S o.table).toNat .zero) (x.ar.getD (cV S o.table).toNat []) o.bC) x
theorem XC {S : aS} {o : Op'} (h : gK S o = 0) (hk : o.kind < 7) : 0 <= cV S o.table := by
 unfold gK at h
 rw [show decide (7 <= o.kind) = false by simpa using hk, cond_false] at h
 by_cases h0 : cV S o.table < 0
 ·simp only [decide_eq_true h0, cond_true] at h
  cases h
 ·omega
theorem PY (hx : iQ S x) (hn : ops.length <= 1048576) (hid : ids.length = ops.length) (hw : ow.length <= 1048576) (i : Nat) (hi : i < ops.length) (hp : AJ S x ops ids i (ops.getD i .zero)) :
  ao Tryz.prog nc [.ptr 0 0, .int .i64 i] [wB S x ops ids ow] ⟨.agg (cZ (dT S x ops ids ow i).2), [wB S (dT S x ops ids ow i).1 ops ids ow], [0]⟩ := by
 have aL := jW.at ops .zero i 8 hi rfl
 have hS : S.length <= 1048576 := by rw [<- hx.h.n]; exact hx.h.s.n
 have zc := fun h => ab1 (S := S) (x := x) (ow := ow) hn hid (ops.getD i .zero).row h hp.sz.rw
 have gY := P2 (S := S) (x := x) (ops := ops) (ids := ids) hw (ops.getD i .zero)
 unfold dT BN
 refine bh (E := FK S x ops ids ow (ops.getD i .zero)) follows named (P0 S x ops ids ow (i : Nat)) (by simp) ?_
 generalize ho : ops.getD i .zero = o at *
 have I7 := Xu hS (fun t h => (hx.m t h).n) hp.sz
 have fy := yv S o.table hS
 simp only [Tb.zero, Op'.zero] at *
 simp only [az, T.WP, All, aA, aD, aE, aF, jW.ae, bJ.ae, dX.ae, KY, Int.toNat_natCast, ho]
 refine ⟨⟨aK, aL⟩, ?_⟩
 rintro y0 e0
 have e0 : y0 = gK S o := e0
 rw [<- e0] at I7 ⊢
 refine ⟨I7, fun h0 => ?_, fun h0 => ⟨fun h7 => ?_, fun h7 => ⟨fun h9 => ?_, fun h9 => ⟨fun h8 => ?_, fun h8 => ⟨fun iz => ?_, fun iz => ?_⟩⟩⟩⟩⟩
 ·rw [show (y0 != 0) = true by simpa using h0, cond_true]; exact aQ
 ·rw [show (y0 != 0) = false by simpa using h0, cond_false, show (o.kind == 7) = true by simpa using h7, Bool.true_or, cond_true]; exact aQ
 ·rw [show (y0 != 0) = false by simpa using h0, cond_false, show (o.kind == 7) = false by simpa using h7, show (o.kind == 9) = true by simpa using h9, Bool.or_true, cond_true]; exact aQ
 ·rw [show (y0 != 0) = false by simpa using h0, cond_false, show (o.kind == 7) = false by simpa using h7, show (o.kind == 9) = false by simpa using h9, Bool.or_false, cond_false, show (o.kind == 8) = true by simpa using h8, cond_true]; exact aQ
 ·rw [show (y0 != 0) = false by simpa using h0, cond_false, show (o.kind == 7) = false by simpa using h7, show (o.kind == 9) = false by simpa using h9, Bool.or_false, cond_false, show (o.kind == 8) = false by simpa using h8, cond_false, show (o.kind == 10) = true by simpa using iz, cond_true]
  rintro y1 rfl
  refine ⟨bn, fun h1 => ⟨.bg (gY.1 h1), ?_⟩, fun h1 => ⟨.bg (gY.2 h1), ?_⟩⟩
  ·rw [h1]; exact aQ
  ·rw [h1]; exact aQ
 ·have k7 : o.kind ≠ 7 := by simpa using h7
  have k8 : o.kind ≠ 8 := by simpa using h8
  have k9 : o.kind ≠ 9 := by simpa using h9
  have k10 : o.kind ≠ 10 := by simpa using iz
  have hk := hp.k
  have bO : o.kind < 7 := af
  have Ts : y0 = 0 := by simpa using h0
  have yV : gK S o = 0 := by rw [<- e0, Ts]
  have Jh := XC yV bO
  have vO : (cV S o.table).toNat < S.length := (s7 (p := fun t : Tb => t.name == o.table) Tb.zero Jh).1
  have oX : ((cV S o.table).toNat : Int) = cV S o.table := Int.toNat_of_nonneg Jh
  rw [show (y0 != 0) = false by simpa using h0, cond_false, show (o.kind == 7) = false by simpa using h7, show (o.kind == 9) = false by simpa using h9, Bool.or_false, cond_false, show (o.kind == 8) = false by simpa using h8, cond_false, show (o.kind == 10) = false by simpa using iz, cond_false]
  rintro y2 rfl
  refine ⟨fy, ?_⟩
  rintro y3 e3
  have e3 : y3 = gy ops ids o.row := e3
  have zc := zc (hp.r bO)
  have gq := hp.l bO yV
  have yY := fun h => hp.p h yV
  rw [<- e3] at zc gq yY ⊢
  refine ⟨zc, fun h3 => ?_, fun h3 => ?_⟩
  ·rw [show (y3.2 != 0) = true by simpa using h3, cond_true]; exact aQ
  rw [show (y3.2 != 0) = false by simpa using h3, cond_false]
  obtain ⟨fX, dK⟩ := gq (by simpa using h3)
  have yY := fun h => yY h (by simpa using h3)
  refine ⟨fun h1 => ?_, fun h1 => ⟨fun h2 => ?_, fun h2 => ⟨fun h6 => ?_, fun h6 => ?_⟩⟩⟩
  ·have IM := TV (ow := ow) hx.w hn hid i _ hi vO y3.1 fX dK
   rw [oX] at IM
   rw [show (o.kind == 1) = true by simpa using h1, cond_true]
   rintro y4 rfl
   exact ⟨IM, aQ⟩
  ·have ph := ac0 (ops := ops) (ids := ids) (ow := ow) hx vO (hp.c bO) hp.sz.wh hp.sz.cl
   rw [oX] at ph
   rw [show (o.kind == 1) = false by simpa using h1, cond_false, show (o.kind == 2) = true by simpa using h2, cond_true]
   rintro y4 rfl
   exact ⟨ph, aQ⟩
  ·have zh := ai8 (ops := ops) (ids := ids) (ow := ow) hx vO (hp.c bO) hp.sz.wh (fun m hm => (fX m hm).2) dK
   rw [oX] at zh
   rw [show (o.kind == 1) = false by simpa using h1, cond_false, show (o.kind == 2) = false by simpa using h2, cond_false, show (o.kind == 6) = true by simpa using h6, cond_true]
   rintro y4 rfl
   exact ⟨zh, aQ⟩
  ·have k1 : o.kind ≠ 1 := by simpa using h1
   have k2 : o.kind ≠ 2 := by simpa using h2
   have k6 : o.kind ≠ 6 := by simpa using h6
   have vk := OT (ops := ops) (ids := ids) (ow := ow) hx vO (hp.c bO) hp.sz.wh fX dK (hp.m bO yV) hp.sz.mu (yY af)
   rw [oX] at vk
   rw [show (o.kind == 1) = false by simpa using h1, cond_false, show (o.kind == 2) = false by simpa using h2, cond_false, show (o.kind == 6) = false by simpa using h6, cond_false]
   rintro y4 rfl
   exact ⟨vk, aQ⟩
end
abbrev iT : Nat := 75
def uv : List V := [.dsl 0 true [], .int .i64 0]
def trL (S : aS) (ops : List Op') (ids : List Int) (ow : List (List UInt8)) : Nat -> Nat -> aM -> List dB -> aM × List dB × Bool
 | 0, _, x, out => (x, out, true)
 | k + 1, i, x, out => bif (dT S x ops ids ow i).2.code != 0 then ((dT S x ops ids ow i).1, out ++ [(dT S x ops ids ow i).2], false)
  else trL S ops ids ow k (i + 1) (dT S x ops ids ow i).1 (out ++ [(dT S x ops ids ow i).2])
def nxL : List Int -> Int -> Int
 | [], n => n
 | d :: ds, n => nxL ds (max n (d + 1))
def FA (S : aS) (x : aM) (ids : List Int) (r : aM × List dB × Bool) : aM × List dB × Bool :=
 bif r.2.2 then
  (bif mj S ⟨(eJ r.1).ar, nxL ids (eJ r.1).next⟩ != 0 then (x, r.2.1 ++ [iv (mj S ⟨(eJ r.1).ar, nxL ids (eJ r.1).next⟩)], false)
   else (⟨(eJ r.1).ar, nxL ids (eJ r.1).next⟩, r.2.1, true))
 else (x, r.2.1, false)
def fF (S : aS) (x : aM) (ops : List Op') (ow : List (List UInt8)) : aM × List dB × Bool := FA S x (idsF ops x.next) (trL S ops (idsF ops x.next) ow ops.length 0 x [])
section
variable (S : aS) (x : aM) (ops : List Op') (ids : List Int) (ow : List (List UInt8))
noncomputable def LN : cP := fun f vs hp =>
 bif Nat.beq f nc then (match vs with | [.ptr 0 0, .int _ i] => some ⟨dT S x ops ids ow i.toNat, fun y => ⟨.agg (cZ y.2), [wB S y.1 ops ids ow], [0]⟩⟩ | _ => none) else
 bif Nat.beq f sQ then (match vs with | [.dsl _ _ cs, .int _ n] => some ⟨idsF (ae aY cs) n, fun y => ⟨ab aN y, [], []⟩⟩ | _ => none) else
 bif Nat.beq f cb then (match vs with | [_, .agg [.dsl _ _ ts, .int _ n]] => some ⟨eJ ⟨ae aI ts, n⟩, fun y => ⟨.agg (aP y), [], []⟩⟩ | _ => none) else
 bif Nat.beq f uX then (match vs with | [.agg [.dsl _ _ cs], .agg [.dsl _ _ ts, .int _ n]] => some ⟨mj (ae aq cs) ⟨ae aI ts, n⟩, fun y => ⟨.int .i64 y, [], []⟩⟩ | _ => none) else Ev S x ops ids ow f vs hp
noncomputable def r9 : Env := { P := Tryz.prog, vw := cq, res := LN S x ops ids ow }
def rG (x0 : aM) (out : List dB) (i : Int) : St := ⟨ai 87 [(2, ab aY ops), (4, .ptr 0 0), (5, .ptr 1 0), (8, .ptr 2 0), (11, .ptr 3 0), (12, .sl 4 0 out.length false), (13, .int .i64 i)], [some ([ab aq S], pS), some (aP x0, cO), some (uv, cO), wB S x ops ids ow, some ([.aJ (ah cZ out)], fg)], []⟩
def Nn (x0 : aM) (out : List dB) : St := ⟨ai 87 [(4, .ptr 0 0), (5, .ptr 1 0), (8, .ptr 2 0), (11, .ptr 3 0), (12, .sl 4 0 out.length false)], [some ([ab aq S], pS), some (aP x0, cO), some (uv, cO), wB S x ops ids ow, some ([.aJ (ah cZ out)], fg)], []⟩
def Ax (x0 : aM) (out : List dB) : St := ⟨ai 87 [(8, .ptr 0 0), (9, .sl 1 0 out.length false), (10, .bool false)], [some (aP x0, cO), some ([.aJ (ah cZ out)], fg)], []⟩
def W2 : Ex -> Kp := fun ex => match ex with
 | .normal => { keep := [2, 4, 5, 8, 11, 12, 13] }
 | .ret => { keep := [8, 9, 10] }
 | _ => { keep := [4, 5, 8, 11, 12] }
def Fj (x0 : aM) (out : List dB) (y : aM) (i : Int) : St := ⟨ai 87 [(4, .ptr 0 0), (5, .ptr 1 0), (8, .ptr 2 0), (11, .ptr 3 0), (12, .sl 4 0 out.length false), (15, .ptr 5 0), (16, .int .i64 i)], [some ([ab aq S], pS), some (aP x0, cO), some (uv, cO), wB S x ops ids ow, some ([.aJ (ah cZ out)], fg), some (aP y, cO)], []⟩
def No (x0 : aM) (out : List dB) (y : aM) : St := ⟨ai 87 [(4, .ptr 0 0), (5, .ptr 1 0), (8, .ptr 2 0), (12, .sl 3 0 out.length false), (15, .ptr 4 0)], [some ([ab aq S], pS), some (aP x0, cO), some (uv, cO), some ([.aJ (ah cZ out)], fg), some (aP y, cO)], []⟩
def W3 : Ex -> Kp := fun ex => match ex with
 | .normal => { keep := [4, 5, 8, 11, 12, 15, 16] }
 | _ => { keep := [4, 5, 8, 12, 15] }
noncomputable def Vo : Nat -> St -> Option bT := fun id s => match id, s.tm.get 11, s.tm.get 12, s.tm.get 15 with
 | 0, _, _, _ => some ⟨trL S ops (idsF ops x.next) ow ops.length 0 x [], fun y => .two { keep := [2, 4, 5, 8, 11, 12, 13], ic := [12] } (rG S x ops (idsF ops x.next) ow x [] 0) y.2.2 (.exit 0) (Nn S y.1 ops (idsF ops x.next) ow x y.2.1) .ret (Ax x y.2.1)⟩
 | 2, .ptr w 0, .sl o 0 _ _, .ptr b 0 => match s.hp[w]?, s.hp[o]?, s.hp[b]? with
  | some (some ([_, .dsl _ _ wt, .int _ wn, _, _, _], _)), some (some ([.aJ os], _)), some (some ([.dsl _ _ ts, .int _ n], _)) => some ⟨(), fun _ => .one { keep := [4, 5, 8, 11, 12, 15, 16] } (Fj S ⟨ae aI wt, wn⟩ ops (idsF ops x.next) ow x (ae cZ os) ⟨ae aI ts, n⟩ 0) (.exit 2) (No S x (ae cZ os) ⟨ae aI ts, nxL (idsF ops x.next) n⟩)⟩
  | _, _, _ => none
 | _, _, _, _ => none
noncomputable def F7 : Env := { P := Tryz.prog, vw := cq, res := LN S x ops ids ow, ls := Vo S x ops ow }
theorem Nj (S : aS) (x : aM) (ops : List Op') (ids : List Int) (ow : List (List UInt8)) (x0 : aM) (out : List dB) (i : Int) : bx (r9 S x ops ids ow) 0 W2 (lp Tryz.prog iT 0) (rG S x ops ids ow x0 out i) = (
 let q2 := ah aq S;
 let q3 := ah aY ops;
 let q4 := ah aN ids;
 let q5 := ah aW ow;
 let q : List V := [.dsl S.length false q2, .dsl (List.length (aM.ar x)) false (ah aI (aM.ar x)), .int .i64 (aM.next x), .dsl ops.length false q3, .dsl ids.length false q4, .dsl ow.length false q5];
 let q1 : List V := [.dsl (List.length (aM.ar x0)) false (ah aI (aM.ar x0)), .int .i64 (aM.next x0)];
 let q6 := out.length + 1; bif decide (i < (↑ops.length : Int)) then .bind (dT S x ops ids ow (Int.toNat i)) fun y0 =>
 let q7 : List V := [.aJ (ah cZ out ++ [.int .i64 (dB.code y0.2), .int .i64 (dB.count y0.2), .int .i64 (dB.id y0.2), .dsl (List.length (dB.aw y0.2)) false (ah aW (dB.aw y0.2)), .dsl (List.length (dB.rows y0.2))
  false (ah av (dB.rows y0.2))])];
 let q8 : List V := [.dsl S.length false q2, .dsl (List.length (aM.ar y0.1)) false (ah aI (aM.ar y0.1)), .int .i64 (aM.next y0.1), .dsl ops.length false q3, .dsl ids.length false q4, .dsl ow.length false q5]; .ag [ao
  Tryz.prog 156 [.ptr 0 0, .int .i64 i] [some (q, 183)] (aj.mk (.agg (cZ y0.2)) [some (q8, 183)] [0])] (.ag [0 = 0, List.length (ah cZ out) = out.length * 5, out.length + 1 <= 9223372036854775807, q6 * 72 <= 140737488355328]
  (bif dB.code y0.2 != 0 then .done (Ex.ret, St.mk (ai 87 [(8, .ptr 0 0), (9, .sl 1 0 q6 false), (10, .bool false)]) [some (q1, 29), some (q7, 185)] []) else .done (Ex.normal, St.mk (ai 87 [(2, .dsl ops.length false q3), (4, .ptr 0
  0), (5, .ptr 1 0), (8, .ptr 2 0), (11, .ptr 3 0), (12, .sl 4 0 q6 false), (13, .int .i64 (IntKind.wrap IntKind.i64 (i + 1)))]) [some ([.dsl S.length false q2], 25), some (q1, 29), some ([.dsl 0 true [], .int .i64 0], 29), some (q8,
  183), some (q7, 185)] []))) else .done (Ex.exit 0, St.mk (ai 87 [(4, .ptr 0 0), (5, .ptr 1 0), (8, .ptr 2 0), (11, .ptr 3 0), (12, .sl 4 0 out.length false)]) [some ([.dsl S.length false q2], 25), some (q1, 29), some ([.dsl 0 true
  [], .int .i64 0], 29), some (q, 183), some ([.aJ (ah cZ out)], 185)] []) : T _) := by kernel_rfl
theorem Nk (S : aS) (x : aM) (ops : List Op') (ids : List Int) (ow : List (List UInt8)) (x0 : aM) (out : List dB) (y : aM) (i : Int) : bx (r9 S x ops ids ow) 0 W3 (lp Tryz.prog iT 2) (Fj S x ops ids ow x0 out y i) = (
 let q1 := ah aN ids;
 let q := List.getD (ae aN q1) i.toNat (0 : Int) + 1; bif decide (i < (↑ids.length : Int)) then .ag [0 <= i /\ i < (↑ids.length : Int), List.take 1 (List.drop (i.toNat * 1) q1) = [aa (List.getD (ae aN q1) i.toNat (0 : Int))]]
  (.done (Ex.normal, St.mk (ai 87 [(4, .ptr 0 0), (5, .ptr 1 0), (8, .ptr 2 0), (11, .ptr 3 0), (12, .sl 4 0 out.length false), (15, .ptr 5 0), (16, aa (IntKind.i64.wrap (i + 1)))]) [some ([ab aq S], 25), some ((aP x0), 29),
  some ([.dsl 0 true [], aa 0], 29), some ([ab aq S, ab aI x.ar, aa x.next, ab aY ops, ab aN ids, ab aW ow], 183), some ([.aJ (ah cZ out)], 185), some ([ab aI y.ar, aa (if IntKind.i64.wrap q >
  y.next then IntKind.i64.wrap q else y.next)], 29)] [])) else .done (Ex.exit 2, St.mk (ai 87 [(4, .ptr 0 0), (5, .ptr 1 0), (8, .ptr 2 0), (12, .sl 3 0 out.length false), (15, .ptr 4 0)]) [some ([ab aq S], 25), some ((aP x0),
  29), some ([.dsl 0 true [], aa 0], 29), some ([.aJ (ah cZ out)], 185), some ((aP y), 29)] []) : T _) := by kernel_rfl
theorem trT (S : aS) (x : aM) (ops : List Op') (ids : List Int) (ow : List (List UInt8)) : fnT (F7 S x ops ids ow) 0 iT [.agg [ab aq S], .agg (aP x), ab aY ops, ab aW ow] [] = (
 let q3 : List V := [.dsl 0 true [], aa 0];
 let q2 := idsF ops x.next;
 let q : Hp := [some ([ab aq S], 25), some ((aP x), 29), some (q3, 29), some ([ab aq S, ab aI x.ar, aa x.next, ab aY ops, ab aN q2, ab aW ow], 183), some ([.aJ []], 185)];
 let q1 := ai 87 [(2, ab aY ops), (4, .ptr 0 0), (5, .ptr 1 0), (8, .ptr 2 0), (11, .ptr 3 0), (12, .sl 4 0 0 false), (13, aa 0)]; .bind (idsF (ae aY (ah aY ops)) x.next) fun y0 => .ag [ao Tryz.prog 155 [ab aY
  ops, aa x.next] [] (aj.mk (ab aN y0) [] [])] (.bind (trL S ops q2 ow ops.length 0 x []) fun y1 =>
 let q7 := ah cZ (y1.2.1);
 let q4 := ae cZ q7;
 let q5 := aM.mk (ae aI (ah aI y1.1.ar)) y1.1.next;
 let q6 := ai 87 [(4, .ptr 0 0), (5, .ptr 1 0), (8, .ptr 2 0), (11, .ptr 3 0), (12, .sl 4 0 q4.length false), (15, .ptr 5 0), (16, aa 0)];
 let q8 := ah cZ q4;
 let q9 := List.length (y1.2.1); .ag [St.mk q1 [some ([ab aq S], 25), some ((aP x), 29), some (q3, 29), some ([ab aq S, ab aI x.ar, aa x.next, ab aY ops, ab aN y0, ab aW ow], 183), some ([.aJ []],
  185)] [] = St.mk q1 q []] (bif y1.2.2 then .ag [aV Tryz.prog 0 (blk Tryz.prog iT 0) (St.mk q1 q []) (Ex.exit 0) (St.mk (ai 87 [(4, .ptr 0 0), (5, .ptr 1 0), (8, .ptr 2 0), (11, .ptr 3 0), (12, .sl 4 0 q9 false)]) [some ([ab
  aq S], 25), some ((aP x), 29), some (q3, 29), some ([ab aq S, ab aI y1.1.ar, aa y1.1.next, ab aY ops, ab aN q2, ab aW ow], 183), some ([.aJ q7], 185)] [])] (.bind (eJ q5) fun y2 =>
 let bL := ae aI (ah aI y2.ar);
 let br : Hp := [some ([ab aq S], 25), some ((aP x), 29), some (q3, 29), some ([ab aq S, ab aI q5.ar, aa q5.next, ab aY ops, ab aN q2, ab aW ow], 183), some ([.aJ q8], 185), some ((aP (aM.mk bL
  y2.next)), 29)];
 let bD := aM.mk bL (nxL q2 y2.next); .ag [ao Tryz.prog 65 [.agg [ab aq S], .agg (aP y1.1)] [] (aj.mk (.agg (aP y2)) [] [])] (.bind PUnit.unit fun _ => .ag [St.mk (ai 87 [(4, .ptr 0 0), (5, .ptr 1 0), (8, .ptr 2
  0), (11, .ptr 3 0), (12, .sl 4 0 q9 false), (15, .ptr 5 0), (16, aa 0)]) [some ([ab aq S], 25), some ((aP x), 29), some (q3, 29), some ([ab aq S, ab aI y1.1.ar, aa y1.1.next, ab aY ops, ab aN q2, ab
  aW ow], 183), some ([.aJ q7], 185), some ((aP y2), 29)] [] = St.mk q6 br [], aV Tryz.prog 0 (blk Tryz.prog iT 2) (St.mk q6 br []) (Ex.exit 2) (St.mk (ai 87 [(4, .ptr 0 0), (5, .ptr 1 0), (8, .ptr 2 0), (12, .sl 3 0
  q4.length false), (15, .ptr 4 0)]) [some ([ab aq S], 25), some ((aP x), 29), some (q3, 29), some ([.aJ q8], 185), some ((aP bD), 29)] [])] (.bind (mj (ae aq (ah aq S)) (aM.mk (ae aI (ah aI
  bD.ar)) bD.next)) fun y4 => .ag [ao Tryz.prog 68 [.agg [ab aq S], .agg (aP bD)] [] (aj.mk (aa y4) [] [])] (bif y4 != 0 then .ag [0 = 0, q8.length = q4.length * 5, q4.length + 1 <= 9223372036854775807, (q4.length +
  1) * 72 <= 140737488355328] (.done (aj.mk (.tup [.agg (aP x), .dsl (q4.length + 1) false (ah cZ q4 ++ [aa y4, aa 0, aa 0, .dsl 0 false [], .dsl 0 false []]), .bool false]) [] [])) else .done (aj.mk (.tup [.agg (aP
  bD), ab cZ q4, .bool true]) [] []))))) else .ag [aV Tryz.prog 0 (blk Tryz.prog iT 0) (St.mk q1 q []) Ex.ret (St.mk (ai 87 [(8, .ptr 0 0), (9, .sl 1 0 q9 false), (10, .bool false)]) [some ((aP x), 29), some ([.aJ
  q7], 185)] [])] (.done (aj.mk (.tup [.agg (aP x), ab cZ (y1.2.1), .bool false]) [] [])))) : T _) := (T.force_eq _).symm.trans (by kernel_rfl)
variable {S x ops ids ow}
def Aw (S : aS) (ops : List Op') (ids : List Int) (ow : List (List UInt8)) : Nat -> Nat -> aM -> Prop
 | 0, _, _ => True
 | k + 1, i, x => iQ S x /\ AJ S x ops ids i (ops.getD i .zero) /\ ((dT S x ops ids ow i).2.code = 0 -> Aw S ops ids ow k (i + 1) (dT S x ops ids ow i).1)
theorem Nh (x0 : aM) (hn : ops.length <= 1048576) (hid : ids.length = ops.length) (hw : ow.length <= 1048576) : ∀ (k i : Nat) (x : aM) (out : List dB), i + k = ops.length -> out.length = i -> Aw S ops ids ow k i x ->
  ((trL S ops ids ow k i x out).2.2 = true -> a8 Tryz.prog 0 (lp Tryz.prog iT 0) (rG S x ops ids ow x0 out i) (.exit 0) (Nn S (trL S ops ids ow k i x out).1 ops ids ow x0 (trL S ops ids ow k i x out).2.1)) /\
  ((trL S ops ids ow k i x out).2.2 = false -> a8 Tryz.prog 0 (lp Tryz.prog iT 0) (rG S x ops ids ow x0 out i) .ret (Ax x0 (trL S ops ids ow k i x out).2.1))
 | 0, i, x, out, hi, ho, _ => by
  have hi : i = ops.length := hi
  subst hi
  refine ⟨fun _ => ?_, fun h => by cases h⟩
  refine bl (E := r9 S x ops ids ow) follows named (Nj S x ops ids ow x0 out (ops.length : Nat)) ?_
  simp only [az, T.WP, All, aB, aC, aA]
  exact ⟨fun h => by omega, fun _ => ⟨rfl, rfl⟩⟩
 | k + 1, i, x, out, hi, ho, hp => by
  obtain ⟨hx, hd, nC⟩ := hp
  have bH : i < ops.length := by omega
  have oZ := PY hx hn hid hw i bH hd
  have w1 : IntKind.i64.wrap ((i : Int) + 1) = ((i + 1 : Nat) : Int) := bE (by omega)
  have ih := fun h => Nh x0 hn hid hw k (i + 1) (dT S x ops ids ow i).1 (out ++ [(dT S x ops ids ow i).2]) (by omega) (by simp [ho]) (nC h)
  rw [trL]
  have key : ∀ {ex : Ex} {s' : St}, ((dT S x ops ids ow i).2.code = 0 -> a8 Tryz.prog 0 (lp Tryz.prog iT 0) (rG S (dT S x ops ids ow i).1 ops ids ow x0 (out ++ [(dT S x ops ids ow i).2]) ((i + 1 : Nat) : Int)) ex s') -> ((dT S x ops ids ow i).2.code ≠ 0 -> Ex.ret = ex /\ Ax x0 (out ++ [(dT S x ops ids ow i).2]) = s') -> a8 Tryz.prog 0 (lp Tryz.prog iT 0) (rG S x ops ids ow x0 out i) ex s' := by
   intro ex s' k1 k2
   refine bl (E := r9 S x ops ids ow) follows named (Nj S x ops ids ow x0 out (i : Nat)) ?_
   simp only [az, T.WP, All, aB, aC, aA, w1, DK.length, Int.toNat_natCast, ho]
   refine ⟨fun _ => ?_, fun h => by omega⟩
   rintro y e
   rw [<- e] at oZ k1 k2
   refine ⟨oZ, aK, fun h => ?_, fun h => ?_⟩
   ·obtain ⟨e1, e2⟩ := k2 (by simpa using h)
    refine ⟨e1, ?_⟩
    rw [<- e2]
    simp only [Ax, dU, cZ, ab, List.length_append, List.length_singleton, ho]
    rfl
   ·have := k1 (by simpa using h)
    simp only [rG, dU, cZ, ab, List.length_append, List.length_singleton, ho] at this ⊢
    exact this
  by_cases h0 : (dT S x ops ids ow i).2.code = 0
  ·rw [show ((dT S x ops ids ow i).2.code != 0) = false by simpa using h0, cond_false]
   obtain ⟨eI, DC⟩ := ih h0
   exact ⟨fun h => key (fun _ => eI h) (fun h => absurd h0 h), fun h => key (fun _ => DC h) (fun h => absurd h0 h)⟩
  ·rw [show ((dT S x ops ids ow i).2.code != 0) = true by simpa using h0, cond_true]
   exact ⟨(fun h => by cases h), fun _ => key (fun h => absurd h h0) (fun _ => ⟨rfl, rfl⟩)⟩
theorem Nl (S : aS) (ops : List Op') (ids : List Int) (ow : List (List UInt8)) : ∀ (k i : Nat) (x : aM) (out : List dB), (trL S ops ids ow k i x out).2.1.length <= out.length + k
 | 0, _, _, _ => Nat.le_refl _
 | k + 1, i, x, out => by
  rw [trL]
  cases (dT S x ops ids ow i).2.code != 0
  ·have := Nl S ops ids ow k (i + 1) (dT S x ops ids ow i).1 (out ++ [(dT S x ops ids ow i).2])
   rw [List.length_append, List.length_singleton] at this
   simp only [cond_false]
   omega
  ·simp only [cond_true, List.length_append, List.length_singleton]
   omega
theorem Ni (x0 : aM) (out : List dB) (hn : ids.length <= 1048576) (hb : ∀ d ∈ ids, 0 <= d /\ d <= 2000000000) : ∀ (k i : Nat) (y : aM), i + k = ids.length ->
  a8 Tryz.prog 0 (lp Tryz.prog iT 2) (Fj S x ops ids ow x0 out y i) (.exit 2) (No S x0 out ⟨y.ar, nxL (ids.drop i) y.next⟩)
 | 0, i, y, hi => by
  have hi : i = ids.length := hi
  subst hi
  rw [List.drop_length]
  refine bl (E := r9 S x ops ids ow) follows named (Nk S x ops ids ow x0 out y (ids.length : Nat)) ?_
  simp only [az, T.WP, All, aB, aC, aA]
  exact ⟨fun h => af, fun _ => ⟨rfl, rfl⟩⟩
 | k + 1, i, y, hi => by
  have bH : i < ids.length := af
  have aL := ej.at ids 0 i 1 bH rfl
  have hd := hb _ (bP 0 bH)
  have w1 : IntKind.i64.wrap ((i : Int) + 1) = ((i + 1 : Nat) : Int) := bE af
  have w2 : IntKind.i64.wrap (ids.getD i 0 + 1) = ids.getD i 0 + 1 := cQ af
  have ih := Ni x0 out hn hb k (i + 1) ⟨y.ar, max y.next (ids.getD i 0 + 1)⟩ af
  rw [gh 0 bH]
  have e : max y.next (ids.getD i 0 + 1) = if ids.getD i 0 + 1 > y.next then ids.getD i 0 + 1 else y.next := by split <;> omega
  have hl : nxL (ids.getD i 0 :: ids.drop (i + 1)) y.next = nxL (ids.drop (i + 1)) (max y.next (ids.getD i 0 + 1)) := rfl
  rw [hl]
  rw [e] at ih ⊢
  refine bl (E := r9 S x ops ids ow) follows named (Nk S x ops ids ow x0 out y (i : Nat)) ?_
  simp only [az, T.WP, All, aB, aC, aA, w1, ej.ae, Int.toNat_natCast, w2]
  refine ⟨fun _ => ⟨⟨aK, aL⟩, ?_⟩, fun h => af⟩
  exact ih
end
section
variable {x : aM} {ops : List Op'} {ow : List (List UInt8)}
theorem ah0 (hn : ops.length <= 1048576) (hw : ow.length <= 1048576) (kn : 0 <= x.next /\ x.next <= 1000000000) (hp : Aw aO ops (idsF ops x.next) ow ops.length 0 x)
  (hq : ∀ r, trL aO ops (idsF ops x.next) ow ops.length 0 x [] = r -> r.2.2 = true -> (∃ a b c n, r.1 = ⟨[a, b, c], n⟩ /\ jH a b c) /\ er aO ⟨(eJ r.1).ar, nxL (idsF ops x.next) (eJ r.1).next⟩)
  (hid : (idsF ops x.next).length = ops.length) (IJ : ∀ d ∈ idsF ops x.next, 0 <= d /\ d <= 2000000000) :
  ao Tryz.prog iT [.agg [ab aq aO], .agg (aP x), ab aY ops, ab aW ow] [] ⟨.tup [.agg (aP (fF aO x ops ow).1), ab cZ (fF aO x ops ow).2.1, .bool (fF aO x ops ow).2.2], [], []⟩ := by
 have lI := TH ops x.next hn kn.1 kn.2
 have h0 := Nh x hn hid hw ops.length 0 x [] af rfl hp
 have h2 := fun y out z => Ni (S := aO) (x := y) (ops := ops) (ow := ow) x out af IJ (idsF ops x.next).length 0 z af
 have qQ : ∀ z a b c n, z = ⟨[a, b, c], n⟩ -> jH a b c -> ao Tryz.prog cb [.agg [ab aq aO], .agg (aP z)] [] ⟨.agg (aP (eJ z)), [], []⟩ := by
  rintro _ a b c n rfl h
  exact YP h
 have cB : ∀ z, er aO z -> ao Tryz.prog uX [.agg [ab aq aO], .agg (aP z)] [] ⟨.int .i64 (mj aO z), [], []⟩ := fun z h => Pl h (by unfold uJ; decide) (by unfold p8; decide)
 have hlen := Nl aO ops (idsF ops x.next) ow ops.length 0 x []
 unfold fF FA
 generalize aO = S at *
 refine bh (E := F7 S x ops (idsF ops x.next) ow) follows named (trT S x ops (idsF ops x.next) ow) (by simp) ?_
 simp only [az, T.WP, All, aA, jW.ae, bB.ae, bJ.ae, DK.ae, DK.length]
 generalize idsF ops x.next = ids at *
 rintro y0 rfl
 refine ⟨lI, ?_⟩
 rintro y1 e1
 have hq := hq y1 e1.symm
 rw [<- e1] at h0 hlen ⊢
 rw [List.length_nil] at hlen
 refine ⟨rfl, fun hb => ⟨.bg (h0.1 hb), ?_⟩, fun hb => ⟨.bg (h0.2 hb), ?_⟩⟩
 ·obtain ⟨⟨a, b, c, n, ha, h3⟩, hS⟩ := hq hb
  have qQ := qQ y1.1 a b c n ha h3
  have cB := cB _ hS
  have h2 := h2 y1.1 y1.2.1 (eJ y1.1)
  rw [hb, cond_true]
  rintro y2 e2
  have e2 : y2 = eJ y1.1 := e2
  rw [<- e2] at qQ cB h2 ⊢
  refine ⟨qQ, ?_⟩
  rintro _ -
  refine ⟨⟨bn, .bg h2⟩, ?_⟩
  rintro y4 e4
  have e4 : y4 = mj S ⟨y2.ar, nxL y0 y2.next⟩ := e4
  rw [<- e4] at cB ⊢
  refine ⟨cB, fun h4 => ?_, fun h4 => ?_⟩
  ·rw [show (y4 != 0) = true by simpa using h4, cond_true]
   refine ⟨aK, ?_, rfl, by simp⟩
   simp only [ab, dU, cZ, iv, List.length_append, List.length_singleton]
   rfl
  ·rw [show (y4 != 0) = false by simpa using h4, cond_false]; exact aQ
 ·rw [hb, cond_false]; exact aQ
end
structure kI (t : Tb) : Prop where
 pl : ∀ c ∈ t.aw, 0 <= bf t c.name /\ t.aw.getD (bf t c.name).toNat .zero = c
 mx : ∀ c ∈ t.aw, c.max <= 8
 n : t.aw.length <= 1000
structure dh (t : Tb) (r : Rw) : Prop where
 n : r.cells.length = t.aw.length
 d : ∀ i, i < t.aw.length -> b7 (t.aw.getD i .zero).kind (r.cells.getD i []) /\ cX (t.aw.getD i .zero) (r.cells.getD i []) = 0
theorem u0 {c : bt} {d : aU} (h : cX c d = 0) : c.min <= d.length /\ (d.length : Int) <= c.max := by
 unfold cX at h
 cases h1 : (decide (0 < d.length) && !((d.getD 0 .zero).kind == c.kind)) <;> rw [h1] at h
 ·rw [cond_false] at h
  cases h2 : (!bz d.length c.min c.max) <;> rw [h2] at h
  ·unfold bz at h2
   simp at h2
   omega
  ·simp at h
 ·simp at h
theorem dh.len {t : Tb} {r : Rw} (ht : kI t) (h : dh t r) : ∀ d ∈ r.cells, d.length <= 8 := by
 intro d hd
 obtain ⟨i, hi, rfl⟩ := List.getElem_of_mem hd
 have iF : i < t.aw.length := by rw [<- h.n]; exact hi
 have h1 := u0 (h.d i iF).2
 have h2 := ht.mx _ (bP .zero iF)
 have e : r.cells.getD i [] = r.cells[i] := by rw [List.getD_eq_getElem?_getD, List.getElem?_eq_getElem hi, Option.getD_some]
 rw [e] at h1
 omega
theorem dh.set {t : Tb} {r : Rw} (h : dh t r) {k : Nat} (hk : k < t.aw.length) {v : aU} (hv : b7 (t.aw.getD k .zero).kind v) (hf : cX (t.aw.getD k .zero) v = 0) : dh t ⟨r.id, r.cells.set k v⟩ := by
 refine ⟨by show (List.set _ _ _).length = _; rw [List.length_set]; exact h.n, fun i hi => ?_⟩
 show b7 _ (List.getD (r.cells.set k v) i []) /\ cX _ (List.getD (r.cells.set k v) i []) = 0
 rw [u7 (by rw [h.n]; exact hk)]
 split
 ·rename_i e
  subst e
  exact ⟨hv, hf⟩
 ·exact h.d i hi
def uK (t : Tb) (s : Sx) : Prop := 0 <= bf t s.aG /\ b7 (t.aw.getD (bf t s.aG).toNat .zero).kind s.val
theorem EN {t : Tb} : ∀ (l : List Sx) (r : Rw), dh t r -> (∀ s ∈ l, uK t s) -> (setRL t l r).2 = 0 -> dh t (setRL t l r).1 /\ (setRL t l r).1.id = r.id
 | [], r, hr, _, _ => ⟨hr, rfl⟩
 | s :: ss, r, hr, hl, h => by
  rw [setRL] at h ⊢
  cases hf : cX (t.aw.getD (bf t s.aG).toNat .zero) s.val != 0
  ·rw [hf, cond_false] at h
   rw [cond_false]
   obtain ⟨h0, hd⟩ := hl s (by simp)
   exact EN ss _ (hr.set (mi h0) hd (by simpa using hf)) (fun s hs => hl s (by simp [hs])) h
  ·rw [hf, cond_true] at h
   have h' : cX (t.aw.getD (bf t s.aG).toNat .zero) s.val = 0 := h
   rw [h'] at hf; cases hf
theorem b7.sub {k : Int} {a b : aU} (h : b7 k b) (hs : a.Sublist b) : b7 k a := ⟨fun x hx => h.ok x (hs.subset hx), h.pw.sublist hs⟩
theorem b7.join {k : Int} : ∀ (b a : aU), b7 k a -> (∀ x ∈ b, fk x = true /\ x.kind = k) -> b7 k (joinF a b)
 | [], _, h, _ => h
 | x :: b, a, h, hb => b7.join b (dN a x) (h.put (hb x (by simp))) (fun y hy => hb y (by simp [hy]))
theorem b7.minus {k : Int} {a : aU} (h : b7 k a) (b : aU) : b7 k (dr a b) := h.sub List.filter_sublist
theorem Xm {f a b : Int} (h : (gv f a b).2 = true) : -1000000000 <= (gv f a b).1 /\ (gv f a b).1 <= 1000000000 := by
 have key : ∀ z : Int, bz z (-1000000000) 1000000000 = true -> -1000000000 <= z /\ z <= 1000000000 := fun z hz => by
  unfold bz at hz; simpa using hz
 unfold gv at h ⊢
 cases h1 : f == 1 <;> rw [h1] at h <;> simp only [cond_true, cond_false] at h ⊢
 ·cases h2 : f == 2 <;> rw [h2] at h <;> simp only [cond_true, cond_false] at h ⊢
  ·cases h3 : f == 3 <;> rw [h3] at h <;> simp only [cond_true, cond_false] at h ⊢
   ·cases h4 : b == 0 <;> rw [h4] at h <;> simp only [cond_true, cond_false] at h ⊢
    ·cases h5 : f == 5 <;> rw [h5] at h <;> simp only [cond_true, cond_false] at h ⊢
     ·exact key _ h
     ·exact key _ h
    ·exact absurd h (by decide)
   ·exact key _ h
  ·exact key _ h
 ·exact key _ h
theorem b7.KO {f b : Int} : ∀ (l o : aU) {v : aU}, b7 1 o -> numsW f b l o = some v -> b7 1 v
 | [], o, v, h, e => by
  rw [numsW] at e
  exact Option.some.inj e ▸ h
 | a :: l, o, v, h, e => by
  rw [numsW] at e
  cases hn : (gv f a.n b).2 <;> rw [hn] at e
  ·simp at e
  ·rw [cond_true] at e
   exact b7.KO l _ (h.put ⟨D6 (Xm hn), rfl⟩) e
def uF (t : Tb) (m : Mt) : Prop := 0 <= bf t m.aG /\ b7 (t.aw.getD (bf t m.aG).toNat .zero).kind m.val /\ (¬ (m.func = 6 \/ m.func = 7) -> (t.aw.getD (bf t m.aG).toNat .zero).kind = 1)
theorem V5 {c : bt} {d : aU} {m : Mt} (hd : b7 c.kind d) (hm : b7 c.kind m.val) (hk : ¬ (m.func = 6 \/ m.func = 7) -> c.kind = 1) (h : (en c d m).2 = 0) : b7 c.kind (en c d m).1 /\ cX c (en c d m).1 = 0 := by
 unfold en at h ⊢
 cases hV : nL d m with
 | none => rw [hV] at h; cases h
 | some v =>
  rw [hV] at h
  dsimp only at h ⊢
  have hv : b7 c.kind v := by
   unfold nL at hV
   cases h6 : m.func == 6 <;> rw [h6] at hV <;> simp only [cond_true, cond_false] at hV
   ·cases h7 : m.func == 7 <;> rw [h7] at hV <;> simp only [cond_true, cond_false] at hV
    ·have hk := hk (by simp at h6 h7; omega)
     rw [hk]
     exact b7.KO d [] (.nil 1) hV
    ·rw [<- Option.some.inj hV]; exact hd.minus _
   ·rw [<- Option.some.inj hV]; exact b7.join _ _ hd hm.ok
  cases hf : cX c v != 0
  ·rw [hf, cond_false] at h
   rw [cond_false]
   exact ⟨hv, by simpa using hf⟩
  ·rw [hf, cond_true] at h
   have h' : cX c v = 0 := h
   rw [h'] at hf; cases hf
theorem J2 {t : Tb} : ∀ (l : List Mt) (r : Rw), dh t r -> (∀ m ∈ l, uF t m) -> (mutRW t l r).2 = 0 -> dh t (mutRW t l r).1 /\ (mutRW t l r).1.id = r.id
 | [], r, hr, _, _ => ⟨hr, rfl⟩
 | m :: ms, r, hr, hl, h => by
  rw [mutRW] at h ⊢
  obtain ⟨h0, hd, hk⟩ := hl m (by simp)
  have bO := mi h0
  cases hf : (en (t.aw.getD (bf t m.aG).toNat .zero) (r.cells.getD (bf t m.aG).toNat []) m).2 != 0
  ·rw [hf, cond_false] at h
   rw [cond_false]
   have hI := V5 (hr.d _ bO).1 hd hk (by simpa using hf)
   exact J2 ms _ (hr.set bO hI.1 hI.2) (fun s hs => hl s (by simp [hs])) h
  ·rw [hf, cond_true] at h
   have h' : (en (t.aw.getD (bf t m.aG).toNat .zero) (r.cells.getD (bf t m.aG).toNat []) m).2 = 0 := h
   rw [h'] at hf; cases hf
abbrev bA (t : Nat) : Tb := aO.getD t .zero
structure jG (t : Tb) (nx : Int) (rows : List Rw) : Prop where
 n : rows.length <= 12
 p : m4 rows
 i : ∀ r ∈ rows, 1 <= r.id /\ r.id < nx
 c : ∀ r ∈ rows, dh t r
structure dG (n0 nx : Int) (x : aM) : Prop where
 n : x.ar.length = 3
 r : ∀ t, t < 3 -> jG (bA t) nx (x.ar.getD t [])
 x : x.next = n0
theorem iL {t : Nat} (ht : t < 3) : kI (bA t) := by
 have : t = 0 \/ t = 1 \/ t = 2 := af
 rcases this with rfl | rfl | rfl <;> exact ⟨by decide, by decide, by decide⟩
theorem Yu : ∀ t ∈ aO, oh t := fun t ht => by
 obtain ⟨h1, h2⟩ := (by decide : ∀ t ∈ aO, t.aw.length <= 1048576 /\ ∀ c ∈ t.aw, c.max <= 1000) t ht
 exact ⟨h1, h2⟩
theorem JW {α : Type} {l : List α} {x : α} (d : α) (h : x ∈ l) : ∃ i, i < l.length /\ l.getD i d = x := by
 obtain ⟨i, hi, e⟩ := List.getElem_of_mem h
 exact ⟨i, hi, by rw [List.getD_eq_getElem?_getD, List.getElem?_eq_getElem hi, Option.getD_some, e]⟩
theorem dh.s {t : Tb} {r : Rw} (ht : kI t) (h : dh t r) : ir r := ⟨by have := h.n; have := ht.n; omega, fun d hd => by have := h.len ht d hd; omega⟩
section
variable {n0 nx : Int} {x : aM}
theorem dG.Aj (h : dG n0 nx x) : iQ aO x := by
 have hm : ∀ rows ∈ x.ar, ∃ t, t < 3 /\ x.ar.getD t [] = rows := fun rows hr => by
  obtain ⟨t, ht, e⟩ := JW [] hr
  exact ⟨t, by rw [<- h.n]; exact ht, e⟩
 have hl : ∀ rows ∈ x.ar, rows.length <= 12 := fun rows hr => by
  obtain ⟨t, ht, rfl⟩ := hm rows hr
  exact (h.r t ht).n
 refine ⟨⟨⟨by rw [h.n]; omega, fun rows hr => Nat.le_trans (hl rows hr) af, fun rows hr r nF => ?_⟩, h.n, fun i hi r hr => ?_, by decide⟩, Yu, fun rows hr => Nat.le_trans (hl rows hr) af, fun rows hr r nF d hd => ?_⟩
 ·obtain ⟨t, ht, rfl⟩ := hm rows hr
  exact ((h.r t ht).c r nF).s (iL ht)
 ·rw [h.n] at hi
  exact ((h.r i hi).c r hr).n
 ·obtain ⟨t, ht, rfl⟩ := hm rows hr
  have := ((h.r t ht).c r nF).len (iL ht) d hd
  omega
theorem jG.mono {t : Tb} {kv : Int} {rows : List Rw} (h : jG t nx rows) (hn : nx <= kv) : jG t kv rows := ⟨h.n, h.p, fun r hr => ⟨(h.i r hr).1, by have := (h.i r hr).2; omega⟩, h.c⟩
theorem jG.sub {t : Tb} {rows rows' : List Rw} (h : jG t nx rows) (hs : rows'.Sublist rows) : jG t nx rows' := ⟨Nat.le_trans hs.length_le h.n, h.p.sublist hs, fun r hr => h.i r (hs.subset hr), fun r hr => h.c r (hs.subset hr)⟩
theorem jG.put {t : Tb} {kv : Int} {rows : List Rw} {r : Rw} (h : jG t nx rows) (hr : dh t r) (h1 : 1 <= r.id) (h2 : r.id < kv) (hn : nx <= kv) (hl : (∃ y ∈ rows, y.id = r.id) \/ rows.length < 12) : jG t kv (ie rows r) := by
 refine ⟨?_, LD h.p, fun y hy => ?_, fun y hy => ?_⟩
 ·rcases hl with hl | hl
  ·rw [LC h.p hl]; exact h.n
  ·have := LB (r := r) (rows := rows); omega
 ·rcases zp hy with rfl | hy
  ·exact ⟨h1, h2⟩
  ·have := h.i y hy; omega
 ·rcases zp hy with rfl | hy
  ·exact hr
  ·exact h.c y hy
theorem dG.mono {kv : Int} (h : dG n0 nx x) (hn : nx <= kv) : dG n0 kv x := ⟨h.n, fun t ht => (h.r t ht).mono hn, h.x⟩
theorem dG.drop (h : dG n0 nx x) (t k : Nat) (ht : t < 3) : dG n0 nx (ik x t k) := by
 refine ⟨by unfold ik; dsimp only; rw [List.length_set]; exact h.n, fun i hi => ?_, h.x⟩
 unfold ik
 dsimp only
 rw [u7 (by rw [h.n]; exact ht)]
 split
 ·rename_i e
  subst e
  exact (h.r t ht).sub (Md _ _)
 ·exact h.r i hi
theorem dG.put {kv : Int} (h : dG n0 nx x) {t : Nat} (ht : t < 3) {r : Rw} (hr : dh (bA t) r) (h1 : 1 <= r.id) (h2 : r.id < kv) (hn : nx <= kv) (hl : (∃ y ∈ x.ar.getD t [], y.id = r.id) \/ (x.ar.getD t []).length < 12) : dG n0 kv (il x t r) := by
 refine ⟨by unfold il; dsimp only; rw [List.length_set]; exact h.n, fun i hi => ?_, h.x⟩
 unfold il
 dsimp only
 rw [u7 (by rw [h.n]; exact ht)]
 split
 ·rename_i e
  subst e
  exact (h.r t ht).put hr h1 h2 hn hl
 ·exact (h.r i hi).mono hn
theorem Qa (h : dG n0 nx x) (t k : Nat) (ht : t < 3) : (ik x t k).ar.getD t [] = fq (x.ar.getD t []) k := by
 unfold ik
 dsimp only
 rw [u7 (by rw [h.n]; exact ht), if_pos rfl]
theorem YT (h : dG n0 nx x) (t : Nat) (r : Rw) (ht : t < 3) : (il x t r).ar.getD t [] = ie (x.ar.getD t []) r := by
 unfold il
 dsimp only
 rw [u7 (by rw [h.n]; exact ht), if_pos rfl]
end
theorem BF {n0 nx : Int} {o : Op'} {t : Nat} (ht : t < 3) {l : List Sx} (hl : ∀ s ∈ l, uK (bA t) s) (hm : ∀ m ∈ o.db, uF (bA t) m) : ∀ (js : List Int) (x : aM), dG n0 nx x -> (∀ j ∈ js, ∃ r ∈ x.ar.getD t [], r.id = j) -> js.Nodup ->
  ot aO o t l js x /\ dG n0 nx (chL aO o t l js x).1
 | [], x, hx, _, _ => ⟨bn, hx⟩
 | id :: js, x, hx, hj, hn => by
  obtain ⟨Sw, vF⟩ := List.nodup_cons.1 hn
  have h0 : 0 <= ct (x.ar.getD t []) id := Ys.2 (hj id (by simp))
  have gq := s7 (p := fun r : Rw => r.id == id) Rw.zero h0
  have hid : ((x.ar.getD t []).getD (ct (x.ar.getD t []) id).toNat .zero).id = id := by simpa [ct] using gq.2
  have gq : (ct (x.ar.getD t []) id).toNat < (x.ar.getD t []).length := gq.1
  have ey := bP (l := x.ar.getD t []) (i := (ct (x.ar.getD t []) id).toNat) ⟨0, []⟩ gq
  have tu : ((x.ar.getD t []).getD (ct (x.ar.getD t []) id).toNat ⟨0, []⟩).id = id := hid
  have dL := (hx.r t ht).c _ ey
  have qS := (hx.r t ht).i _ ey
  have hD := fun (_ : o.kind = 5) => BF ht hl hm js (ik x t (ct (x.ar.getD t []) id).toNat) (hx.drop t _ ht) (fun j yM => by
   rw [Qa hx t _ ht]
   exact P9 gq (hj j (by simp [yM])) (by rw [hid]; rintro rfl; exact Sw yM)) vF
  have hP := fun (r : Rw) (hr : dh (bA t) r) (Dj : r.id = id) => BF ht hl hm js (il x t r) (hx.put ht hr (by rw [Dj, <- tu]; exact qS.1) (by rw [Dj, <- tu]; exact qS.2) (Int.le_refl _) (.inl (by rw [Dj]; exact hj id (by simp)))) (fun j yM => by
   rw [YT hx t _ ht]
   exact LA (hj j (by simp [yM]))) vF
  have h4 := fun h => J2 o.db _ dL hm h
  have h3 := fun h => EN l _ dL hl h
  refine ⟨⟨hx.Aj, h0, fun h5 => (hD h5).1, fun _ h => ⟨(h4 h).1.s (iL ht), (hP _ (h4 h).1 (by rw [(h4 h).2, tu])).1⟩, fun _ _ h => ⟨(h3 h).1.s (iL ht), (hP _ (h3 h).1 (by rw [(h3 h).2, tu])).1⟩⟩, ?_⟩
  rw [chL]
  cases h5 : o.kind == 5
  ·rw [cond_false]
   cases Ih : o.kind == 4
   ·rw [cond_false]
    cases hf : (setRL (aO.getD t .zero) l ((x.ar.getD t []).getD (ct (x.ar.getD t []) id).toNat ⟨0, []⟩)).2 != 0
    ·rw [cond_false]
     have hz := h3 (by simpa using hf)
     exact (hP _ hz.1 (by rw [hz.2, tu])).2
    ·exact hx
   ·rw [cond_true]
    cases hf : (mutRW (aO.getD t .zero) o.db ((x.ar.getD t []).getD (ct (x.ar.getD t []) id).toNat ⟨0, []⟩)).2 != 0
    ·rw [cond_false]
     have hz := h4 (by simpa using hf)
     exact (hP _ hz.1 (by rw [hz.2, tu])).2
    ·exact hx
  ·rw [cond_true]
   exact (hD (by simpa using h5)).2
def uD (ids : List Int) : Prop := ∀ d ∈ ids, d = 0 \/ (1 <= d /\ d <= 1000000)
theorem Xb {ops : List Op'} {ids : List Int} (h : uD ids) {t : List UInt8} (hn : gJ ops ids t ≠ 0) : 1 <= gJ ops ids t /\ gJ ops ids t <= 1000000 := by
 unfold gJ at hn ⊢
 cases h0 : decide (0 <= lR ops t) <;> rw [h0] at hn
 ·exact absurd rfl hn
 ·rw [cond_true] at hn ⊢
  by_cases hl : (lR ops t).toNat < ids.length
  ·rcases h _ (bP 0 hl) with h | h
   ·exact absurd h hn
   ·exact h
  ·rw [List.getD_eq_getElem?_getD, List.getElem?_eq_none af] at hn
   exact absurd rfl hn
theorem MA {ops : List Op'} {ids : List Int} (hi : uD ids) : ∀ (ns : List (List UInt8)) (v v' : aU), setN ops ids ns v = some v' -> b7 4 v -> b7 4 v'
 | [], v, v', h, hv => by rw [setN] at h; exact Option.some.inj h ▸ hv
 | n :: ns, v, v', h, hv => by
  rw [setN] at h
  cases h0 : gJ ops ids n == 0 <;> rw [h0] at h
  ·rw [cond_false] at h
   have hg := Xb (ops := ops) hi (t := n) (by simpa using h0)
   exact MA hi ns _ v' h (hv.put ⟨by simp [fk, lN, bz, hg.1, hg.2], rfl⟩)
  ·simp at h
theorem MB {ops : List Op'} {ids : List Int} : ∀ (ns : List (List UInt8)) (v v' : aU), setN ops ids ns v = some v' -> v'.length <= v.length + ns.length
 | [], v, v', h => by rw [setN] at h; rw [<- Option.some.inj h]; simp
 | n :: ns, v, v', h => by
  rw [setN] at h
  cases h0 : gJ ops ids n == 0 <;> rw [h0] at h
  ·rw [cond_false] at h
   have := MB ns _ v' h
   have := oA v ⟨4, gJ ops ids n, []⟩
   rw [List.length_cons]
   omega
  ·simp at h
theorem ME {ops : List Op'} {ids : List Int} : ∀ (l out : List Sx), (setsL ops ids l out).1.length <= out.length + l.length /\ ∀ m ∈ (setsL ops ids l out).1, m ∈ out \/ ∃ s ∈ l, m.aG = s.aG /\ setN ops ids s.names s.val = some m.val
 | [], out => ⟨by simp [setsL], fun m h => .inl h⟩
 | s :: l, out => by
  rw [setsL]
  cases hs : setN ops ids s.names s.val with
  | none => exact ⟨by simp, fun m h => .inl h⟩
  | some v =>
   obtain ⟨h1, h2⟩ := ME (ops := ops) (ids := ids) l (out ++ [⟨s.aG, v, []⟩])
   refine ⟨?_, fun m hm => ?_⟩
   ·dsimp only
    rw [List.length_append] at h1
    simp only [List.length_cons, List.length_nil] at h1 ⊢
    omega
   ·rcases h2 m hm with h | ⟨q, hq, h⟩
    ·rcases List.mem_append.1 h with h | h
     ·exact .inl h
     ·rw [List.mem_singleton] at h
      subst h
      exact .inr ⟨s, by simp, rfl, hs⟩
    ·exact .inr ⟨q, by simp [hq], h⟩
theorem ER {ops : List Op'} {ids : List Int} (hi : uD ids) {t : Nat} (ht : t < 3) {l : List Sx} (hl : ∀ s ∈ l, ln (bA t) s) : (∀ m ∈ (gy ops ids l).1, uK (bA t) m /\ m.val.length <= 1000) /\ (gy ops ids l).1.length <= l.length := by
 have h := ME (ops := ops) (ids := ids) l []
 refine ⟨fun m hm => ?_, by simpa [gy] using h.1⟩
 rcases h.2 m hm with h | ⟨s, hs, hc, hv⟩
 ·cases h
 ·obtain ⟨aG, cB, RB, hd, hlen, -, eG, vI⟩ := hl s hs
  have hG := (iL ht).pl aG cB
  have hlv := MB _ _ _ hv
  refine ⟨?_, af⟩
  unfold uK
  rw [hc, RB, hG.2]
  refine ⟨hG.1, ?_⟩
  by_cases bp : s.names = []
  ·rw [bp, setN] at hv
   rw [<- Option.some.inj hv]
   exact hd
  ·obtain ⟨hk, -⟩ := eG bp
   rw [hk] at hd ⊢
   exact MA hi _ _ _ hv hd
structure xP (o : Op') : Prop where
 k : 1 <= o.kind /\ o.kind <= 10
 t : o.kind < 7 -> ∃ t, t < 3 /\ cV aO o.table = (t : Nat) /\ (∀ q ∈ o.bC, gO (bA t) q) /\ (∀ s ∈ o.row, ln (bA t) s) /\ ∀ m ∈ o.db, ke (bA t) m
 s : o.name.length <= 100 /\ o.bC.length <= 2 /\ o.row.length <= 3 /\ o.db.length <= 2 /\ o.aw.length <= 4
theorem uo {t : Int} (ht : 0 <= t /\ t < 3) : t.toNat < 3 /\ cV aO (dc t) = (t.toNat : Nat) := by
 have : t = 0 \/ t = 1 \/ t = 2 := af
 rcases this with rfl | rfl | rfl <;> exact ⟨by decide, by decide⟩
theorem fP.g {o : Op'} (h : fP o) : xP o := by
 cases h with
 | ins t row nm ht hr hl hn =>
  have := uo ht
  refine ⟨by simp, fun _ => ⟨t.toNat, this.1, this.2, by simp, hr, by simp⟩, ?_, by simp, by simpa using hl, by simp, by simp⟩
  simp only [pq, List.mem_cons, List.not_mem_nil, or_false] at hn
  rcases hn with rfl | rfl | rfl <;> simp
 | Mw t bC aw ht hw jU hc hl =>
  have := uo ht
  exact ⟨by simp, fun _ => ⟨t.toNat, this.1, this.2, hw, by simp, by simp⟩, by simp, by simpa using jU, by simp, by simp, by simpa using hl⟩
 | Nu t bC row ht hw jU hr hl =>
  have := uo ht
  exact ⟨by simp, fun _ => ⟨t.toNat, this.1, this.2, hw, hr, by simp⟩, by simp, by simpa using jU, by simpa using hl, by simp, by simp⟩
 | «mut» t bC db ht hw jU hm hl =>
  have := uo ht
  exact ⟨by simp, fun _ => ⟨t.toNat, this.1, this.2, hw, by simp, hm⟩, by simp, by simpa using jU, by simp, by simpa using hl, by simp⟩
 | del t bC ht hw jU =>
  have := uo ht
  exact ⟨by simp, fun _ => ⟨t.toNat, this.1, this.2, hw, by simp, by simp⟩, by simp, by simpa using jU, by simp, by simp, by simp⟩
 | wait t bC row b ht hw jU hr hl =>
  have := uo ht
  exact ⟨by simp, fun _ => ⟨t.toNat, this.1, this.2, hw, hr, by simp⟩, by simp, by simpa using jU, by simpa using hl, by simp, by simp⟩
 | G7 => exact ⟨by simp, (fun h => by simp at h), by simp, by simp, by simp, by simp, by simp⟩
 | Gl => exact ⟨by simp, (fun h => by simp at h), by simp, by simp, by simp, by simp, by simp⟩
 | Mp => exact ⟨by simp, (fun h => by simp at h), by simp, by simp, by simp, by simp, by simp⟩
 | Gn nm hn =>
  refine ⟨by simp, (fun h => by simp at h), ?_, by simp, by simp, by simp, by simp⟩
  simp only [tH, List.mem_cons, List.not_mem_nil, or_false] at hn
  rcases hn with rfl | rfl <;> simp
theorem gO.s {tb : Tb} {q : a6} (h : gO tb q) : j9 q := by
 refine ⟨by have := h.len; omega, ?_⟩
 by_cases h3 : 3 <= q.func /\ q.func <= 6
 ·have hl : q.val.length = 1 := by
   rcases h.aG with ⟨_, _, _, hn⟩ | ⟨c, _, _, _, hc⟩
   ·exact absurd h3 hn
   ·exact (hc h3).2
  exact .inr (.inr (.inr (.inr (by intro e; rw [e] at hl; simp at hl))))
 ·have := h.fn
  omega
theorem ke.i {t : Nat} (ht : t < 3) {m : Mt} (h : ke (bA t) m) : uF (bA t) m /\ p6 m := by
 obtain ⟨c, hc, hn, hd, h5⟩ := h.aG
 have hG := (iL ht).pl c hc
 have hf := h.fn
 refine ⟨?_, by have := h.len; omega, ?_⟩
 ·unfold uF
  rw [hn, hG.2]
  exact ⟨hG.1, hd, fun bp => (h5 af).1⟩
 ·by_cases h6 : m.func = 6
  ·exact .inl h6
  ·by_cases h7 : m.func = 7
   ·exact .inr (.inl h7)
   ·have hl := (h5 af).2
    exact .inr (.inr (by intro e; rw [e] at hl; simp at hl))
theorem aa6 {t : Tb} {rows : List Rw} {l : List a6} : ∀ j ∈ bK t rows l, ∃ r ∈ rows, r.id = j := fun j hj => by
 unfold bK at hj
 obtain ⟨r, hr, e⟩ := List.mem_map.1 hj
 exact ⟨r, (List.mem_filter.1 hr).1, e⟩
theorem aa7 {t : Tb} {rows : List Rw} {l : List a6} (h : m4 rows) : (bK t rows l).Nodup := by
 unfold bK
 unfold List.Nodup
 rw [List.pairwise_map]
 exact (h.sublist List.filter_sublist).imp fun h => af
theorem b7.uL {a : At} {k : Int} (h : fk a = true) (hk : a.kind = k) : b7 k [a] := .one ⟨h, hk⟩
theorem QL {t : Nat} (ht : t < 3) (id : Int) : dh (bA t) (gi (bA t) id) := by
 have hd : ∀ c ∈ (bA t).aw, b7 c.kind (gR c) /\ cX c (gR c) = 0 := by
  have : t = 0 \/ t = 1 \/ t = 2 := af
  rcases this with rfl | rfl | rfl
  ·intro c hc
   have : c = sy \/ c = qg := by simpa [bA, aO, Fu] using hc
   rcases this with rfl | rfl
   ·exact ⟨.uL (by decide) rfl, by decide⟩
   ·exact ⟨.nil _, by decide⟩
  ·intro c hc
   have : c = sy \/ c = GB \/ c = GC := by simpa [bA, aO, Fv] using hc
   rcases this with rfl | rfl | rfl
   ·exact ⟨.uL (by decide) rfl, by decide⟩
   ·exact ⟨.nil _, by decide⟩
   ·exact ⟨.uL (by decide) rfl, by decide⟩
  ·intro c hc
   have : c = sy \/ c = Gx \/ c = BC := by simpa [bA, aO, Fw] using hc
   rcases this with rfl | rfl | rfl
   ·exact ⟨.uL (by decide) rfl, by decide⟩
   ·exact ⟨.uL (by decide) rfl, by decide⟩
   ·exact ⟨.nil _, by decide⟩
 refine ⟨by unfold gi; simp, fun i hi => ?_⟩
 have e : (gi (bA t) id).cells.getD i [] = gR ((bA t).aw.getD i .zero) := by
  unfold gi
  rw [List.getD_eq_getElem?_getD, List.getElem?_map, List.getD_eq_getElem?_getD, List.getElem?_eq_getElem hi]
  rfl
 rw [e]
 exact hd _ (bP .zero hi)
def cntI : List Op' -> Int
 | [] => 0
 | o :: t => (if o.kind = 1 then 1 else 0) + cntI t
theorem sD : ∀ l, 0 <= cntI l /\ cntI l <= (l.length : Int)
 | [] => ⟨Int.le_refl _, Int.le_refl _⟩
 | o :: t => by
  have := sD t
  rw [cntI, List.length_cons]
  split <;> omega
theorem G5 : ∀ (l : List Op') (i : Nat), i < l.length -> cntI (l.take (i + 1)) = cntI (l.take i) + (if (l.getD i .zero).kind = 1 then 1 else 0)
 | [], i, h => by simp at h
 | o :: t, 0, _ => by simp [cntI]
 | o :: t, i + 1, h => by
  have := G5 t i (by simpa using h)
  rw [List.take_succ_cons, List.take_succ_cons, cntI, cntI, this, List.getD_cons_succ]
  omega
theorem DB : ∀ (l : List Op') (n : Int), (idsF l n).length = l.length
 | [], _ => rfl
 | o :: t, n => by
  rw [idsF]
  cases o.kind == 1 <;> simp [DB t]
theorem zk : ∀ (l : List Op') (n : Int) (i : Nat), i < l.length -> (idsF l n).getD i 0 = if (l.getD i .zero).kind = 1 then n + cntI (l.take i) else 0
 | [], _, i, h => by simp at h
 | o :: t, n, 0, _ => by
  rw [idsF]
  by_cases h : o.kind = 1
  ·rw [show (o.kind == 1) = true by simpa using h]; simp [h, cntI]
  ·rw [show (o.kind == 1) = false by simpa using h]; simp [h]
 | o :: t, n, i + 1, h => by
  rw [idsF, List.getD_cons_succ, List.take_succ_cons, cntI]
  by_cases h1 : o.kind = 1
  ·rw [show (o.kind == 1) = true by simpa using h1, cond_true, List.getD_cons_succ, zk t (n + 1) i (by simpa using h), if_pos h1]
   split <;> omega
  ·rw [show (o.kind == 1) = false by simpa using h1, cond_false, List.getD_cons_succ, zk t n i (by simpa using h), if_neg h1]
   split <;> omega
theorem Jr {l : List Op'} {n : Int} (h1 : 1 <= n) (h2 : n + l.length <= 1000000) : uD (idsF l n) := by
 intro d hd
 obtain ⟨i, hi, rfl⟩ := JW 0 hd
 rw [DB] at hi
 rw [zk l n i hi]
 have h3 := sD (l.take i)
 rw [List.length_take] at h3
 split
 ·right; omega
 ·left; rfl
theorem D7 : ∀ (l : List Op') (n m : Int), 1 <= m -> m <= n -> (cntI l = 0 -> nxL (idsF l n) m = m) /\ (0 < cntI l -> nxL (idsF l n) m = n + cntI l)
 | [], _, _, _, _ => ⟨fun _ => rfl, fun h => by simp [cntI] at h⟩
 | o :: t, n, m, h1, h2 => by
  have ht := sD t
  rw [idsF, cntI]
  by_cases h : o.kind = 1
  ·rw [show (o.kind == 1) = true by simpa using h, cond_true, if_pos h, nxL]
   have := D7 t (n + 1) (max m (n + 1)) (by omega) (by omega)
   refine ⟨fun h => by omega, fun _ => ?_⟩
   by_cases h0 : cntI t = 0
   ·rw [this.1 h0]; omega
   ·rw [this.2 (by omega)]; omega
  ·rw [show (o.kind == 1) = false by simpa using h, cond_false, if_neg h, nxL]
   have := D7 t n (max m (0 + 1)) (by omega) (by omega)
   rw [show max m (0 + 1) = m by omega] at this
   rw [show max m (0 + 1) = m by omega]
   exact ⟨fun h => this.1 (by omega), fun h => by rw [this.2 (by omega)]; omega⟩
theorem Xp (l : List Op') (n : Int) (h : 1 <= n) : nxL (idsF l n) n = n + cntI l := by
 have h1 := D7 l n n h (Int.le_refl _)
 have h2 := sD l
 by_cases h0 : cntI l = 0
 ·rw [h1.1 h0]; omega
 ·exact h1.2 af
theorem TW {n0 nx : Int} {x : aM} {ops : List Op'} {ids : List Int} {i t : Nat} {l : List Sx} (hx : dG n0 nx x) (ht : t < 3) (hl : ∀ s ∈ l, uK (bA t) s) (hid : nx <= ids.getD i 0 /\ 1 <= ids.getD i 0) : dG n0 (ids.getD i 0 + 1) (pn aO x ops ids i t l).1 := by
 have hm := hx.mono (show nx <= ids.getD i 0 + 1 by omega)
 unfold pn
 cases lx ops i (ops.getD i .zero).name
 ·rw [cond_false]
  cases vc : (x.ar.getD t []).length == 12
  ·rw [cond_false]
   cases hs : (setRL (aO.getD t .zero) l (gi (aO.getD t .zero) (ids.getD i 0))).2 != 0
   ·rw [cond_false]
    have h := EN l _ (QL ht (ids.getD i 0)) hl (by simpa using hs)
    have hi : (setRL (bA t) l (gi (bA t) (ids.getD i 0))).1.id = ids.getD i 0 := h.2
    have aj9 : (x.ar.getD t []).length ≠ 12 := by simpa using vc
    have ak0 := (hx.r t ht).n
    exact hx.put ht h.1 (by rw [hi]; exact hid.2) (by rw [hi]; omega) (by omega) (.inr (by omega))
   ·exact hm
  ·exact hm
 ·exact hm
theorem P1 {n0 nx : Int} {x : aM} {ops : List Op'} {ids : List Int} {ow : List (List UInt8)} {i : Nat} (hx : dG n0 nx x) (ho : xP (ops.getD i .zero)) (hG : uD ids) (hid : (ops.getD i .zero).kind = 1 -> nx <= ids.getD i 0 /\ 1 <= ids.getD i 0) :
  AJ aO x ops ids i (ops.getD i .zero) /\ dG n0 (if (ops.getD i .zero).kind = 1 then ids.getD i 0 + 1 else nx) (dT aO x ops ids ow i).1 := by
 have vD : dG n0 (if (ops.getD i .zero).kind = 1 then ids.getD i 0 + 1 else nx) x := hx.mono (by
  split
  ·rename_i h1
   have := hid h1
   omega
  ·exact Int.le_refl _)
 have hs := ho.s
 have hk := ho.k
 have nz : ∀ t, t < 3 -> (∀ m ∈ (ops.getD i .zero).db, ke (bA t) m) -> ∀ m ∈ (ops.getD i .zero).db, uF (bA t) m := fun t ht h m hm => ((h m hm).i ht).1
 have vk : ∀ t, t < 3 -> (∀ s ∈ (ops.getD i .zero).row, ln (bA t) s) -> (∀ m ∈ (ops.getD i .zero).db, ke (bA t) m) ->
   ot aO (ops.getD i .zero) t (gy ops ids (ops.getD i .zero).row).1 (bK (aO.getD t .zero) (x.ar.getD t []) (ops.getD i .zero).bC) x /\ dG n0 nx (chL aO (ops.getD i .zero) t (gy ops ids (ops.getD i .zero).row).1 (bK (aO.getD t .zero) (x.ar.getD t []) (ops.getD i .zero).bC) x).1 := fun t ht h1 h2 =>
  BF ht (fun s h => ((ER hG ht h1).1 s h).1) (nz t ht h2) _ x hx aa6 (aa7 (hx.r t ht).p)
 refine ⟨⟨⟨af, af, af, af, af⟩, hk, fun h7 => ?_, fun h7 => ?_, fun h7 _ _ => ?_, fun h7 _ => ?_, fun h3 _ _ => ?_⟩, ?_⟩
 ·obtain ⟨t, ht, -, hw, -, -⟩ := ho.t h7
  exact fun q hq => (hw q hq).s
 ·obtain ⟨t, ht, -, -, hr, -⟩ := ho.t h7
  intro s hs
  obtain ⟨aG, -, -, -, h8, -, -, h1⟩ := hr s hs
  exact ⟨af, af⟩
 ·obtain ⟨t, ht, qX, -, hr, -⟩ := ho.t h7
  have h := ER (ops := ops) hG ht hr
  rw [qX, Int.toNat_natCast]
  exact ⟨fun m hm => ⟨(h.1 m hm).2, (h.1 m hm).1.1⟩, af⟩
 ·obtain ⟨t, ht, qX, -, -, hm⟩ := ho.t h7
  rw [qX, Int.toNat_natCast]
  exact fun m h => ⟨((hm m h).i ht).2, ((hm m h).i ht).1.1⟩
 ·obtain ⟨t, ht, qX, -, hr, hm⟩ := ho.t af
  rw [qX, Int.toNat_natCast]
  exact (vk t ht hr hm).1
 ·unfold dT
  cases gK aO (ops.getD i .zero) != 0
  ·rw [cond_false]
   cases Q7 : ((ops.getD i .zero).kind == 7 || (ops.getD i .zero).kind == 9)
   ·rw [cond_false]
    cases h8 : (ops.getD i .zero).kind == 8
    ·rw [cond_false]
     cases iz : (ops.getD i .zero).kind == 10
     ·rw [cond_false]
      simp only [Bool.or_eq_false_iff, beq_eq_false_iff_ne, ne_eq] at Q7 h8 iz
      obtain ⟨t, ht, qX, -, hr, hm⟩ := ho.t af
      rw [qX, Int.toNat_natCast]
      cases (gy ops ids (ops.getD i .zero).row).2 != 0
      ·rw [cond_false]
       unfold BN
       cases h1 : (ops.getD i .zero).kind == 1
       ·rw [cond_false, if_neg (by simpa using h1)]
        cases (ops.getD i .zero).kind == 2
        ·rw [cond_false]
         cases (ops.getD i .zero).kind == 6
         ·exact (vk t ht hr hm).2
         ·exact hx
        ·exact hx
       ·rw [cond_true, if_pos (by simpa using h1)]
        exact TW hx ht (fun s h => ((ER hG ht hr).1 s h).1) (hid (by simpa using h1))
      ·exact vD
     ·exact vD
    ·exact vD
   ·exact vD
  ·exact vD
theorem Np {n0 : Int} {ops : List Op'} {ow : List (List UInt8)} (h1 : 1 <= n0) (h2 : n0 + ops.length <= 1000000) (ho : ∀ o ∈ ops, xP o) : ∀ (k i : Nat) (x : aM) (out : List dB), i + k = ops.length -> dG n0 (n0 + cntI (ops.take i)) x ->
  Aw aO ops (idsF ops n0) ow k i x /\ ((trL aO ops (idsF ops n0) ow k i x out).2.2 = true -> dG n0 (n0 + cntI ops) (trL aO ops (idsF ops n0) ow k i x out).1)
 | 0, i, x, out, hi, hx => by
  have hi : i = ops.length := hi
  subst hi
  rw [List.take_length] at hx
  exact ⟨bn, fun _ => hx⟩
 | k + 1, i, x, out, hi, hx => by
  have bH : i < ops.length := af
  have aL := zk ops n0 i bH
  have hc := sD (ops.take i)
  have hd := P1 (ow := ow) hx (ho _ (bP .zero bH)) (Jr h1 h2) (fun h => by rw [aL, if_pos h]; omega)
  have Je := G5 ops i bH
  have ju : dG n0 (n0 + cntI (ops.take (i + 1))) (dT aO x ops (idsF ops n0) ow i).1 := by
   refine hd.2.mono ?_
   rw [Je, aL]
   by_cases h : (ops.getD i .zero).kind = 1
   ·simp only [if_pos h]; omega
   ·simp only [if_neg h]; omega
  have ih := fun out => Np h1 h2 ho (ow := ow) k (i + 1) (dT aO x ops (idsF ops n0) ow i).1 out af ju
  refine ⟨⟨hx.Aj, hd.1, fun _ => (ih []).1⟩, ?_⟩
  rw [trL]
  cases (dT aO x ops (idsF ops n0) ow i).2.code != 0
  ·rw [cond_false]; exact (ih _).2
  ·rw [cond_true]; exact fun h => by cases h
abbrev yp : Nat := 39
def gL (l : List UInt8) : Src := ⟨l, 0, (l.length % 1000 : Nat)⟩
theorem ac8 (l : List UInt8) : fnT E0 1 yp [ab aR l] [] = (
 .ag [(1000 : Int) ≠ (0 : Int)] (.done (aj.mk (.ptr 0 0) [some ([ab aR l, aa 0, aa (Int.tmod (↑l.length : Int) (1000 : Int))], 138)] [])) : T _) := (T.force_eq _).symm.trans (by kernel_rfl)
theorem MU (l : List UInt8) : ao Tryz.prog yp [ab aR l] [] ⟨.ptr 0 0, [au (gL l)], []⟩ := by
 refine bh (E := E0) follows named (ac8 l) (by simp) ?_
 simp only [T.WP, All, aA, aF]
 refine ⟨af, rfl, ?_, by simp⟩
 have e : ((l.length : Int)).tmod 1000 = ((l.length % 1000 : Nat) : Int) := by
  rw [Int.tmod_eq_emod_of_nonneg af]; omega
 rw [e]; rfl
theorem MW (l : List UInt8) (h : l.length <= 1048576) : (gL l).OK 1000000 := ⟨h, by simp [gL], by simp only [gL]; omega, by simp only [gL]; omega⟩
theorem Am (a c : List Rw) (nx : Int) : ∀ (n k : Nat) (b : List Rw) (g : Bool), (swB a c nx n k b g).1.Sublist b
 | 0, _, b, _ => .refl b
 | n + 1, k, b, g => by
  rw [swB]
  cases decide (k < b.length)
  ·exact .refl b
  ·rw [cond_true]
   cases eS aO ⟨[a, b, c], nx⟩ 1 (b.getD k .zero).id == 0
   ·exact Am a c nx n (k + 1) b g
   ·exact (Am a c nx n k (fq b k) true).trans (Md b k)
theorem Hl (a c : List Rw) (nx : Int) : ∀ (n : Nat) (b : List Rw), (drB a c nx n b).Sublist b
 | 0, b => .refl b
 | n + 1, b => by
  rw [drB]
  cases (swB a c nx b.length 0 b false).2
  ·exact Am a c nx _ 0 b false
  ·exact (Hl a c nx n _).trans (Am a c nx _ 0 b false)
theorem Qx {c : bt} {d : aU} (hd : b7 c.kind d) (hk : c.kind ≠ 1) (hm : c.min = 0) (hl : (d.length : Int) <= c.max) : cX c d = 0 := by
 unfold cX
 have h1 : (decide (0 < d.length) && !((d.getD 0 .zero).kind == c.kind)) = false := by
  by_cases h0 : 0 < d.length
  ·rw [(hd.ok _ (bP .zero h0)).2]; simp
  ·simp [h0]
 rw [h1, cond_false, show bz d.length c.min c.max = true by unfold bz; rw [hm]; simp; omega, show (c.kind == 1) = false by simpa using hk]
 rfl
theorem aj2 (there : List Rw) {r : Rw} (h : dh (bA 0) r) : dh (bA 0) (eD there 1 r) := by
 have h1 := h.d 1 (by decide)
 have hl := u0 h1.2
 have hd : b7 ((bA 0).aw.getD 1 .zero).kind (iH there (r.cells.getD 1 [])) := h1.1.sub List.filter_sublist
 refine h.set (k := 1) (by decide) hd (Qx hd (by decide) (by decide) ?_)
 have : (iH there (r.cells.getD 1 [])).length <= (r.cells.getD 1 []).length := List.length_filter_le _ _
 omega
theorem Un {α : Type} {l : List α} (h : l.length = 3) : ∃ a b c, l = [a, b, c] := by
 match l, h with
 | [a, b, c], _ => exact ⟨a, b, c, rfl⟩
theorem YD {n0 nx : Int} {x : aM} (h : dG n0 nx x) : (∃ a b c n, x = ⟨[a, b, c], n⟩ /\ jH a b c) /\ dG n0 nx (eJ x) := by
 obtain ⟨ts, n⟩ := x
 obtain ⟨a, b, c, rfl⟩ := Un h.n
 have ha : jG (bA 0) nx a := h.r 0 af
 have hb : jG (bA 1) nx b := h.r 1 af
 have hc : jG (bA 2) nx c := h.r 2 af
 refine ⟨⟨a, b, c, n, rfl, ⟨by have := ha.n; omega, fun r hr => ⟨(ha.c r hr).s (iL af), (ha.c r hr).n⟩⟩, ⟨by have := hb.n; omega, fun r hr => ⟨(hb.c r hr).s (iL af), (hb.c r hr).n⟩⟩, ⟨by have := hc.n; omega, fun r hr => ⟨(hc.c r hr).s (iL af), (hc.c r hr).n⟩⟩⟩, rfl, fun t ht => ?_, h.x⟩
 have bX := hb.sub (Hl a c n (b.length + 1) b)
 have cY : jG (bA 0) nx (a.map (eD (drB a c n (b.length + 1) b) 1)) := by
  refine ⟨by rw [List.length_map]; exact ha.n, ?_, fun r hr => ?_, fun r hr => ?_⟩
  ·unfold m4
   rw [List.pairwise_map]
   exact ha.p
  ·obtain ⟨y, hy, rfl⟩ := List.mem_map.1 hr
   exact ha.i y hy
  ·obtain ⟨y, hy, rfl⟩ := List.mem_map.1 hr
   exact aj2 _ (ha.c y hy)
 have : t = 0 \/ t = 1 \/ t = 2 := af
 rcases this with rfl | rfl | rfl
 ·exact cY
 ·exact bX
 ·exact hc
theorem dG.Xq {n0 n1 nx : Int} {x : aM} (h : dG n0 nx x) : dG n1 nx ⟨x.ar, n1⟩ := ⟨h.n, h.r, rfl⟩
def gP (x : aM) : Prop := 1 <= x.next /\ dG x.next x.next x
theorem ah2 {x : aM} {ops : List Op'} {ow : List (List UInt8)} (hx : gP x) (h2 : x.next + ops.length <= 1000000) (ho : ∀ o ∈ ops, xP o) (hn : ops.length <= 1048576) (hw : ow.length <= 1048576) :
  ao Tryz.prog iT [.agg [ab aq aO], .agg (aP x), ab aY ops, ab aW ow] [] ⟨.tup [.agg (aP (fF aO x ops ow).1), ab cZ (fF aO x ops ow).2.1, .bool (fF aO x ops ow).2.2], [], []⟩ /\ gP (fF aO x ops ow).1 /\ x.next <= (fF aO x ops ow).1.next /\ (fF aO x ops ow).1.next <= x.next + ops.length := by
 have hI := Np (ow := ow) hx.1 h2 ho ops.length 0 x [] af (by simpa [cntI] using hx.2)
 have hG := Jr hx.1 h2
 have hc := sD ops
 have kn := Xp ops x.next hx.1
 have qQ : ∀ r, trL aO ops (idsF ops x.next) ow ops.length 0 x [] = r -> r.2.2 = true -> (∃ a b c n, r.1 = ⟨[a, b, c], n⟩ /\ jH a b c) /\ dG x.next (x.next + cntI ops) (eJ r.1) := by
  rintro r rfl h
  exact YD (hI.2 h)
 have IC : ∀ r, trL aO ops (idsF ops x.next) ow ops.length 0 x [] = r -> r.2.2 = true -> dG (x.next + cntI ops) (x.next + cntI ops) ⟨(eJ r.1).ar, nxL (idsF ops x.next) (eJ r.1).next⟩ := by
  intro r hr h
  have h3 := (qQ r hr h).2
  rw [h3.x, kn]
  exact h3.Xq
 refine ⟨ah0 hn hw ⟨by have := hx.1; omega, af⟩ hI.1 (fun r hr h => ⟨(qQ r hr h).1, (IC r hr h).Aj.h⟩) (DB ops x.next) (fun d hd => by rcases hG d hd with h | h <;> omega), ?_⟩
 unfold fF FA
 generalize hr : trL aO ops (idsF ops x.next) ow ops.length 0 x [] = r at *
 have zb : gP x /\ x.next <= x.next /\ x.next <= x.next + (ops.length : Int) := ⟨hx, af, af⟩
 cases h : r.2.2
 ·exact zb
 ·rw [cond_true]
  have h3 := IC r rfl h
  cases mj aO ⟨(eJ r.1).ar, nxL (idsF ops x.next) (eJ r.1).next⟩ != 0
  ·rw [cond_false]
   have Tp : nxL (idsF ops x.next) (eJ r.1).next = x.next + cntI ops := h3.x
   refine ⟨⟨?_, ?_⟩, ?_, ?_⟩
   ·show 1 <= nxL (idsF ops x.next) (eJ r.1).next
    have := hx.1; omega
   ·show dG (nxL (idsF ops x.next) (eJ r.1).next) (nxL (idsF ops x.next) (eJ r.1).next) _
    rw [Tp] at h3 ⊢
    exact h3
   ·show x.next <= nxL (idsF ops x.next) (eJ r.1).next
    omega
   ·show nxL (idsF ops x.next) (eJ r.1).next <= _
    omega
  ·exact zb
abbrev s6 : Nat := 40
abbrev Cq : Nat := 104
abbrev Cp : Nat := 8
def j4 (x : Src) (m : Int) : Int := min (1 + (x.l.length : Int).tdiv 12) m
theorem szT (x : Src) (m : Int) : fnT E0 0 Cq [.ptr 0 0, .int .i64 m] [au x] = (
 let q := (1 : Int) + IntKind.i64.wrap (Int.tdiv (↑x.l.length : Int) (12 : Int)); .ag [(12 : Int) ≠ (0 : Int)] (.done (aj.mk (aa (if m < IntKind.i64.wrap q then m else IntKind.i64.wrap q)) [au x] [])) : T _) := (T.force_eq _).symm.trans (by kernel_rfl)
noncomputable def stoL : Nat -> aM -> Src -> aM × Src
 | 0, x, s => (x, s)
 | n + 1, x, s => stoL n (fF aO x (jc s).1 []).1 (jc s).2
def pQ (s : Src) : Int × Src := aX s (j4 s 8 + 5)
noncomputable def mT (s : Src) : aM × Src := stoL (pQ s).1.toNat (l5 aO) (pQ s).2
noncomputable def rK (l : List UInt8) : aM := (mT (gL l)).1
noncomputable def L3 (S : aS) : cP := fun f vs hp => match vs, hp with
 | [.ptr 0 0], [some ([.dsl _ _ cs, .int _ k, .int _ s], _)] => bif Nat.beq f qt then some ⟨jc (bc cs k s), fun y => ⟨ab aY y.1, [au y.2], [0]⟩⟩ else bif Nat.beq f s6 then some ⟨mT (bc cs k s), fun y => ⟨.agg (aP y.1), [au y.2], [0]⟩⟩ else none
 | [.ptr 0 0, .int _ n], [some ([.dsl _ _ cs, .int _ k, .int _ s], _)] => bif Nat.beq f kh then some ⟨aX (bc cs k s) n, fun y => ⟨.int .i64 y.1, [au y.2], [0]⟩⟩ else bif Nat.beq f Cq then some ⟨j4 (bc cs k s) n, fun y => ⟨.int .i64 y, [au (bc cs k s)], []⟩⟩ else none
 | [], [] => bif Nat.beq f nj then some ⟨(), fun _ => ⟨.agg [ab aq S], [], []⟩⟩ else none
 | [.agg [.dsl _ _ cs]], [] => bif Nat.beq f sT then some ⟨l5 (ae aq cs), fun y => ⟨.agg (aP y), [], []⟩⟩ else none
 | [.agg [.dsl _ _ ts, .int _ n]], [] => bif Nat.beq f ew then some ⟨(), fun _ => ⟨.agg (aP ⟨ae aI ts, n⟩), [], []⟩⟩ else none
 | [.dsl _ _ cs], [] => bif Nat.beq f yp then some ⟨gL (ae aR cs), fun y => ⟨.ptr 0 0, [au y], []⟩⟩ else none
 | [.agg [.dsl _ _ cs], .agg [.dsl _ _ ts, .int _ n], .dsl _ _ os, .sl 0 0 0 true], [_] => bif Nat.beq f iT then some ⟨fF (ae aq cs) ⟨ae aI ts, n⟩ (ae aY os) [], fun y => ⟨.tup [.agg (aP y.1), ab cZ y.2.1, .bool y.2.2], [none], [0]⟩⟩ else none
 | _, _ => none
noncomputable def uA (S : aS) : Env := { P := Tryz.prog, vw := cq, res := L3 S }
def Fh (s : Src) (x : aM) (i : Int) : St := ⟨ai 32 [(0, .ptr 0 0), (2, .ptr 1 0), (3, .ptr 2 0), (4, .int .i64 i)], [au s, some (uv, cO), some (aP x, cO)], [0]⟩
def M3 (s : Src) (x : aM) : St := ⟨ai 32 [(2, .ptr 1 0), (3, .ptr 2 0)], [au s, some (uv, cO), some (aP x, cO)], [0]⟩
def W0 : Ex -> Kp := fun ex => match ex with
 | .normal => { keep := [0, 2, 3, 4], wr := [0] }
 | _ => { keep := [2, 3], wr := [0] }
theorem M1 (S : aS) (s : Src) (x : aM) (i : Int) : bx (uA S) 1 W0 (lp Tryz.prog s6 0) (Fh s x i) = (
 bif decide (i > 0) then .bind PUnit.unit fun _ => .ag [ao Tryz.prog 7 [] [] (aj.mk (.agg [ab aq S]) [] [])] (.bind (jc (bc (ah aR s.l) (↑s.k : Int) s.s)) fun y1 => .ag [ao Tryz.prog 77 [.ptr 0 0] [au s]
  (aj.mk (ab aY y1.1) [au y1.2] [0])] (.bind (fF (ae aq (ah aq S)) (aM.mk (ae aI (ah aI x.ar)) x.next) (ae aY (ah aY y1.1)) []) fun y2 => .ag [ao Tryz.prog 75 [.agg [ab aq S], .agg
  (aP x), ab aY y1.1, .sl 0 0 0 true] [some ([], 9)] (aj.mk (.tup [.agg (aP y2.1), ab cZ (y2.2.1), .bool (y2.2.2)]) [none] [0])] (.done (Ex.normal, St.mk (ai 32 [(0, .ptr 0 0), (2, .ptr 1 0), (3, .ptr 2 0), (4, aa
  (IntKind.i64.wrap (i - 1)))]) [au y1.2, some ([.dsl 0 true [], aa 0], 29), some ((aP y2.1), 29)] [0])))) else .done (Ex.exit 0, St.mk (ai 32 [(2, .ptr 1 0), (3, .ptr 2 0)]) [au s, some ([.dsl 0 true [], aa 0], 29), some
  ((aP x), 29)] [0]) : T _) := by kernel_rfl
noncomputable def Vm : Nat -> St -> Option bT := fun id s => match id, s.tm.get 3, s.tm.get 4, s.hp with
 | 0, .ptr b 0, .int _ i, some ([.dsl _ _ cs, .int _ k, .int _ sd], _) :: _ => match s.hp[b]? with
  | some (some ([.dsl _ _ ts, .int _ n], _)) => some ⟨stoL i.toNat ⟨ae aI ts, n⟩ (bc cs k sd), fun y => .one { keep := [0, 2, 3, 4], wr := [0] } (Fh (bc cs k sd) ⟨ae aI ts, n⟩ i) (.exit 0) (M3 y.2 y.1)⟩
  | _ => none
 | _, _, _, _ => none
noncomputable def F6 (S : aS) : Env := { P := Tryz.prog, vw := cq, res := L3 S, ls := Vm }
theorem ae1 (S : aS) (s : Src) : fnT (F6 S) 0 s6 [.ptr 0 0] [au s] = (
 let q := bc (ah aR s.l) (↑s.k : Int) s.s;
 let q1 : List V := [.dsl 0 true [], aa 0]; .bind PUnit.unit fun _ => .ag [ao Tryz.prog 7 [] [] (aj.mk (.agg [ab aq S]) [] [])] (.bind (l5 (ae aq (ah aq S))) fun y1 =>
 let q2 := aM.mk (ae aI (ah aI y1.ar)) y1.next; .ag [ao Tryz.prog 102 [.agg [ab aq S]] [] (aj.mk (.agg (aP y1)) [] [])] (.bind (j4 q (8 : Int)) fun y2 =>
 let q3 := IntKind.i64.wrap (y2 + 5); .ag [ao Tryz.prog 104 [.ptr 0 0, aa 8] [au s] (aj.mk (aa y2) [au q] [])] (.bind (aX q q3) fun y3 =>
 let q4 := ai 32 [(0, .ptr 0 0), (2, .ptr 1 0), (3, .ptr 2 0), (4, aa y3.1)];
 let q5 := bc (ah aR y3.2.l) (↑y3.2.k : Int) y3.2.s; .ag [ao Tryz.prog 103 [.ptr 0 0, aa q3] [au s] (aj.mk (aa y3.1) [au y3.2] [0])] (.bind (stoL y3.1.toNat q2 q5) fun y4 =>
 let q6 : V := .agg (aP (aM.mk (ae aI (ah aI y4.1.ar)) y4.1.next)); .ag [St.mk q4 [au y3.2, some (q1, 29), some ((aP y1), 29)] [0] = St.mk q4 [au q5, some (q1, 29), some ((aP q2), 29)] [0], aV
  Tryz.prog 1 (blk Tryz.prog s6 0) (St.mk q4 [au q5, some (q1, 29), some ((aP q2), 29)] [0]) (Ex.exit 0) (St.mk (ai 32 [(2, .ptr 1 0), (3, .ptr 2 0)]) [au y4.2, some (q1, 29), some ((aP y4.1), 29)] [0])] (.bind
  PUnit.unit fun _ => .ag [ao Tryz.prog 74 [.agg (aP y4.1)] [] (aj.mk q6 [] [])] (.done (aj.mk q6 [au y4.2] [0]))))))) : T _) := (T.force_eq _).symm.trans (by kernel_rfl)
theorem ad5 (l : List UInt8) : fnT (uA aO) 0 Cp [ab aR l] [] = (
 .bind (gL (ae aR (ah aR l))) fun y0 => .ag [ao Tryz.prog 39 [ab aR l] [] (aj.mk (.ptr 0 0) [au y0] [])] (.bind (mT (bc (ah aR y0.l) (↑y0.k : Int) y0.s)) fun y1 => .ag [ao Tryz.prog 40 [.ptr
  0 0] [au y0] (aj.mk (.agg (aP y1.1)) [au y1.2] [0])] (.done (aj.mk (.agg (aP y1.1)) [] []))) : T _) := (T.force_eq _).symm.trans (by kernel_rfl)
theorem af5 (x : Src) (m : Int) (_ : 0 <= m /\ m <= 1000) (hl : x.l.length <= 1048576) : ao Tryz.prog Cq [.ptr 0 0, .int .i64 m] [au x] ⟨.int .i64 (j4 x m), [au x], []⟩ := by
 have hb : 0 <= (x.l.length : Int).tdiv 12 /\ (x.l.length : Int).tdiv 12 <= 1048576 := by
  rw [Int.tdiv_eq_ediv_of_nonneg af]; omega
 refine bh (E := E0) follows named (szT x m) (by simp) ?_
 simp only [T.WP, All, aA, aF]
 rw [cQ (n := (x.l.length : Int).tdiv 12) af, cQ (n := 1 + (x.l.length : Int).tdiv 12) af]
 have e : (if m < 1 + (x.l.length : Int).tdiv 12 then m else 1 + (x.l.length : Int).tdiv 12) = j4 x m := by
  unfold j4
  split <;> omega
 rw [e]
 exact ⟨af, aQ⟩
theorem af4 (x : Src) {m : Int} (hm : 1 <= m) : 1 <= j4 x m /\ j4 x m <= m := by
 have hb : 0 <= (x.l.length : Int).tdiv 12 := Int.tdiv_nonneg af af
 unfold j4
 omega
theorem ah1 {x : aM} {ops : List Op'} (h : ao Tryz.prog iT [.agg [ab aq aO], .agg (aP x), ab aY ops, ab aW []] [] ⟨.tup [.agg (aP (fF aO x ops []).1), ab cZ (fF aO x ops []).2.1, .bool (fF aO x ops []).2.2], [], []⟩) :
  ao Tryz.prog iT [.agg [ab aq aO], .agg (aP x), ab aY ops, .sl 0 0 0 true] [some ([], pT)] ⟨.tup [.agg (aP (fF aO x ops []).1), ab cZ (fF aO x ops []).2.1, .bool (fF aO x ops []).2.2], [none], [0]⟩ :=
 ao.u9 (hp := [some ([], pT)]) 5 rfl h
theorem M4 : ∀ (n : Nat) (x : aM) (s : Src) (c : Nat), gP x -> x.next + 5 * n <= 1000 -> s.OK (c + n * 825) ->
  a8 Tryz.prog 1 (lp Tryz.prog s6 0) (Fh s x n) (.exit 0) (M3 (stoL n x s).2 (stoL n x s).1) /\ gP (stoL n x s).1 /\ (stoL n x s).1.next <= x.next + 5 * n /\ (stoL n x s).2.OK c
 | 0, x, s, c, hx, hn, hs => by
  refine ⟨?_, hx, by simp [stoL], hs.less af⟩
  refine bl (E := uA aO) follows named (M1 aO s x ((0 : Nat) : Int)) ?_
  simp only [az, T.WP, All, aB, aC, aA]
  exact ⟨fun h => af, fun _ => ⟨rfl, rfl⟩⟩
 | n + 1, x, s, c, hx, hn, hs => by
  have ho := X5 (x := s) (c := c + n * 825) (hs.less af)
  have hf := X3 (x := s) (c := c + n * 825) (hs.less af)
  have ht := ah2 (ow := []) hx (by have := hf.2.1; omega) (fun o h => (hf.1 o h).g) (by have := hf.2.1; omega) (by simp)
  have Dt := ah1 ht.1
  have ih := M4 n (fF aO x (jc s).1 []).1 (jc s).2 c ht.2.1 (by have := ht.2.2.2; have := hf.2.1; omega) hf.2.2
  have e : stoL (n + 1) x s = stoL n (fF aO x (jc s).1 []).1 (jc s).2 := rfl
  rw [e]
  refine ⟨?_, ih.2.1, by have := ih.2.2.1; have := ht.2.2.2; have := hf.2.1; omega, ih.2.2.2⟩
  have hx1 := hx.1
  have w1 : IntKind.i64.wrap (((n + 1 : Nat) : Int) - 1) = (n : Int) := by
   rw [cQ af]; omega
  have eI := ih.1
  refine bl (E := uA aO) follows named (M1 aO s x ((n + 1 : Nat) : Int)) ?_
  simp only [az, T.WP, All, aB, aC, aA, w1, dF, bJ.ae, bB.ae, jW.ae]
  refine ⟨fun _ => ?_, fun h => af⟩
  rintro _ -
  refine ⟨rl, ?_⟩
  rintro y1 e1
  have e1 : y1 = jc s := e1
  rw [<- e1] at ho Dt eI ⊢
  refine ⟨ho, ?_⟩
  rintro y2 e2
  have e2 : y2 = fF aO x y1.1 [] := e2
  rw [<- e2] at Dt eI ⊢
  exact ⟨Dt, eI⟩
theorem Wl : gP (l5 aO) := by
 refine ⟨by decide, rfl, fun t ht => ?_, rfl⟩
 have e : (l5 aO).ar.getD t [] = [] := by
  have : t = 0 \/ t = 1 \/ t = 2 := af
  rcases this with rfl | rfl | rfl <;> rfl
 rw [e]
 exact ⟨by simp, .nil, by simp, by simp⟩
theorem ae0 {s : Src} {c : Nat} (hs : s.OK (c + 9903)) : ao Tryz.prog s6 [.ptr 0 0] [au s] ⟨.agg (aP (mT s).1), [au (mT s).2], [0]⟩ /\ gP (mT s).1 /\ (mT s).1.next <= 61 /\ (mT s).2.OK c := by
 have hz := af4 s (m := 8) af
 have cM := af5 s 8 af hs.hl
 have kn := fc (c := c + 9900) s (j4 s 8 + 5) hs
 have I5 := dx (x := s) (n := j4 s 8 + 5) (c := c + 9900) hs af
 have hN : (pQ s) = aX s (j4 s 8 + 5) := rfl
 rw [<- hN] at kn I5
 have hl := M4 (pQ s).1.toNat (l5 aO) (pQ s).2 c Wl (by have : (l5 aO).next = 1 := rfl; omega) (I5.1.less af)
 have h1 : (l5 aO).next = 1 := rfl
 unfold mT
 refine ⟨?_, hl.2.1, by have := hl.2.2.1; omega, hl.2.2.2⟩
 have eZ := Wm (S := aO) (by decide)
 have oX : (((pQ s).1.toNat : Nat) : Int) = (pQ s).1 := af
 have cC := hl.1
 rw [oX] at cC
 have yX := Lb hl.2.1.2.Aj.h.s
 refine bh (E := F6 aO) follows named (ae1 aO s) (by simp) ?_
 have w1 : IntKind.i64.wrap (j4 s 8 + 5) = j4 s 8 + 5 := cQ af
 simp only [T.WP, All, aA, dF, bJ.ae, bB.ae]
 rintro _ -
 refine ⟨rl, ?_⟩
 rintro y1 e1
 have e1 : y1 = l5 aO := e1
 rw [<- e1] at eZ cC yX ⊢
 refine ⟨eZ, ?_⟩
 rintro y2 rfl
 rw [w1]
 refine ⟨cM, ?_⟩
 rintro y3 e3
 have e3 : y3 = pQ s := e3
 rw [<- e3] at kn cC yX ⊢
 refine ⟨kn, ?_⟩
 rintro y4 e4
 have e4 : y4 = stoL y3.1.toNat y1 y3.2 := e4
 rw [<- e4] at cC yX ⊢
 refine ⟨⟨bn, .bg cC⟩, ?_⟩
 rintro _ -
 exact ⟨yX, aQ⟩
theorem ae2 (l : List UInt8) (h : l.length <= 1048576) : ao Tryz.prog Cp [ab aR l] [] ⟨.agg (aP (rK l)), [], []⟩ /\ gP (rK l) /\ (rK l).next <= 61 := by
 have h0 : (gL l).OK (0 + 9903) := (MW l h).less af
 have hs := ae0 h0
 refine ⟨?_, hs.2.1, hs.2.2.1⟩
 have lK := hs.1
 unfold rK
 refine bh (E := uA aO) follows named (ad5 l) (by simp) ?_
 simp only [T.WP, All, aA, lP.ae, dF]
 rintro y e
 have e : y = gL l := e
 rw [<- e] at lK ⊢
 refine ⟨by rw [e]; exact MU l, ?_⟩
 rintro y2 e2
 have e2 : y2 = mT y := e2
 rw [<- e2] at lK ⊢
 exact ⟨lK, aQ⟩
theorem cy.Xw {I : Nat -> Prop} {w w' : World} {X : Nat -> Prop} (h : w.grownBy w' none) (_ : ∀ k, I k -> k < w.heap.size) : cy I w w' X := by
 have hb : ∀ k, k < w.heap.size -> w'.heap[k]? = w.heap[k]? := fun k hk => h.block k hk (by simp)
 refine ⟨h.os, h.tape, h.output, h.size, fun k hk _ => hb k hk, fun k s hs => ?_, fun k hk hl => hb k hl⟩
 unfold World.shape? at hs ⊢
 have hk : k < w.heap.size := by
  rcases Nat.lt_or_ge k w.heap.size with h | h
  ·exact h
  ·rw [Array.getElem?_eq_none h] at hs; cases hs
 rw [hb k hk]; exact hs
theorem ao.Xv {P : Program} {f : FuncId} {vs : List V} {v : V}
  (h : ∀ (I : Nat -> Prop) (w : World) (ch : Array Value), V.RL P I bY w vs ch.toList -> kF P I w -> Calls P f ch w fun e w' => ∃ val, e = .returned val /\ V.R P I bY w' v val /\ w.grownBy w' none) :
  ao P f vs [] ⟨v, [], []⟩ := by
 refine ⟨⟨Nat.le_refl _, fun b hb => by simp at hb, fun b hb => by simp at hb, fun b hb => by simp at hb⟩, fun I w μ ch hv pre dO => ?_⟩
 have hμ : df μ bY := fun b g hb => by have := dO b g hb; simp at this
 refine (h I w ch (hv.keep (.refl w (fun _ => False)) (.refl I) hμ) pre.dj).mono ?_
 rintro e w' ⟨val, he, hR, hg⟩
 exact ⟨val, μ, I, he, sj hR, ⟨.refl _, fun k hk => .inl hk, .Xw hg pre.dj, .refl _, fun b g hb => .inl hb, fun _ _ _ => rfl, fun b hb blk h => by simp at h, fun b hb blk h => by simp at h, fun b c b1 b2 g bp hb hc h1 => by simp at h1⟩⟩
abbrev B4 : Nat := 218
abbrev Cl : Nat := 250
abbrev oC : Nat := 245
abbrev HG : Nat := 246
abbrev B3 : Nat := 198
abbrev yr : Nat := 45
abbrev Cg : Nat := 194
abbrev Ce : Nat := 110
abbrev BY : Nat := 197
abbrev oJ : Nat := 244
abbrev sM : Nat := 121
def cI (a b : Int) : Int := bif decide (a < b) then -1 else bif decide (a > b) then 1 else 0
def orF : List Int -> Int
 | [] => 0
 | a :: t => bif a != 0 then a else orF t
def jJ (a b : At) : Int := orF [cI a.kind b.kind, cI a.n b.n, Lib.compareBytes a.t b.t]
theorem O9 (a b : List UInt8) : ao Tryz.prog HG [.str a, .str b] [] ⟨.int .i64 (Lib.compareBytes a b), [], []⟩ := by
 refine ao.Xv fun I w ch hv hI => ?_
 simp only [V.RL, V.R] at hv
 obtain ⟨u, us, h1, rfl, u2, im, h2, rfl, rfl⟩ := hv
 subst h2
 obtain rfl : ch = #[.string ⟨a.toArray⟩, .string ⟨b.toArray⟩] := by cases ch; simp_all
 refine (Any.strings_Compare Tryz.lays106 ⟨a.toArray⟩ ⟨b.toArray⟩ w).mono ?_
 rintro e w' ⟨he, rfl⟩
 exact ⟨_, he, by simp only [V.R], ⟨rfl, rfl, rfl, Nat.le_refl _, fun _ _ _ => rfl⟩⟩
noncomputable def pI : cP := fun f vs hp => match vs, hp with
 | [.int _ a], [] => bif Nat.beq f Cl then some ⟨(), fun _ => ⟨.bool false, [], []⟩⟩ else bif Nat.beq f Cg then some ⟨tJ a, fun y => ⟨.bool y, [], []⟩⟩ else bif Nat.beq f Ce then some ⟨lN a, fun y => ⟨.bool y, [], []⟩⟩ else none
 | [.int _ a, .int _ b], [] => bif Nat.beq f B4 then some ⟨cI a b, fun y => ⟨.int .i64 y, [], []⟩⟩ else none
 | [.int _ a, .int _ b, .int _ c], [] => bif Nat.beq f yr then some ⟨bz a b c, fun y => ⟨.bool y, [], []⟩⟩ else none
 | [.str a], [] => bif Nat.beq f oJ then some ⟨pC a, fun y => ⟨.bool y, [], []⟩⟩ else none
 | [.str a, .str b], [] => bif Nat.beq f HG then some ⟨Lib.compareBytes a b, fun y => ⟨.int .i64 y, [], []⟩⟩ else none
 | [.sl 0 0 3 _], [some ([.int k1 a, .int k2 b, .int k3 c], T)] => bif Nat.beq f oC then some ⟨orF [a, b, c], fun y => ⟨.int .i64 y, [some ([.int k1 a, .int k2 b, .int k3 c], T)], []⟩⟩ else none
 | [.agg [.int _ k, .int _ n, .str t]], [] => bif Nat.beq f BY then some ⟨fk ⟨k, n, t⟩, fun y => ⟨.bool y, [], []⟩⟩ else none
 | [.agg [.int _ k, .int _ n, .str t], .agg [.int _ k', .int _ n', .str t']], [] => bif Nat.beq f B3 then some ⟨jJ ⟨k, n, t⟩ ⟨k', n', t'⟩, fun y => ⟨.int .i64 y, [], []⟩⟩ else none
 | _, _ => none
noncomputable def dm : Env := { P := Tryz.prog, vw := cq, res := pI }
theorem Wj (a : Int) : fnT dm 0 Cl [.int .i64 a] [] = (
 .done (aj.mk (.bool (a != a)) [] []) : T _) := (T.force_eq _).symm.trans (by kernel_rfl)
theorem O7 (a b : Int) : fnT dm 0 B4 [.int .i64 a, .int .i64 b] [] = (
 let q := aj.mk (.bool false) [] []; .bind PUnit.unit fun _ => .ag [ao (Env.P dm) 250 [aa a] [] q] (.bind PUnit.unit fun _ => .ag [ao (Env.P dm) 250 [aa b] [] q] (bif decide (a < b) then .done (aj.mk (aa (-1 : Int)) []
  []) else bif decide (a > b) then .done (aj.mk (aa 1) [] []) else .done (aj.mk (aa 0) [] []))) : T _) := (T.force_eq _).symm.trans (by kernel_rfl)
theorem aj1 (a b c : Int) : fnT dm 0 yr [.int .i64 a, .int .i64 b, .int .i64 c] [] = (
 bif decide (a >= b) then .done (aj.mk (.bool (decide (a <= c))) [] []) else .done (aj.mk (.bool false) [] []) : T _) := by kernel_rfl
theorem T1 (a : Int) : fnT dm 0 Cg [.int .i64 a] [] = (
 .bind (bz a (-1000000000 : Int) (1000000000 : Int)) fun y0 => .ag [ao (Env.P dm) 45 [aa a, aa (-1000000000 : Int), aa 1000000000] [] (aj.mk (.bool y0) [] [])] (.done (aj.mk (.bool y0) [] [])) : T _) := (T.force_eq _).symm.trans (by kernel_rfl)
theorem TZ (a : Int) : fnT dm 0 Ce [.int .i64 a] [] = (
 .bind (bz a (1 : Int) (1000000 : Int)) fun y0 => .ag [ao (Env.P dm) 45 [aa a, aa 1, aa 1000000] [] (aj.mk (.bool y0) [] [])] (.done (aj.mk (.bool y0) [] [])) : T _) := (T.force_eq _).symm.trans (by kernel_rfl)
theorem O4 (a b : At) : fnT dm 0 B3 [.agg (ak a), .agg (ak b)] [] = (
 .bind (cI a.kind b.kind) fun y0 => .ag [ao (Env.P dm) 218 [aa a.kind, aa b.kind] [] (aj.mk (aa y0) [] [])] (.bind (cI a.n b.n) fun y1 => .ag [ao (Env.P dm) 218 [aa a.n, aa b.n] [] (aj.mk (aa y1) [] [])] (.bind
  (Lib.compareBytes a.t b.t) fun y2 =>
 let q : Hp := [some ([aa y0, aa y1, aa y2], 3)]; .ag [ao (Env.P dm) 246 [.str a.t, .str b.t] [] (aj.mk (aa y2) [] [])] (.bind (orF [y0, y1, y2]) fun y3 => .ag [ao (Env.P dm) 245 [.sl 0 0 3 true] q (aj.mk (aa y3) q [])]
  (.done (aj.mk (aa y3) [] []))))) : T _) := (T.force_eq _).symm.trans (by kernel_rfl)
theorem Ol (a : At) : fnT dm 0 BY [.agg (ak a)] [] = (
 let q := aj.mk (.bool false) [] [];
 let q1 := aj.mk (.bool (a.t == [])) [] []; bif a.kind == 1 then .bind (tJ a.n) fun y0 => .ag [ao (Env.P dm) 194 [aa a.n] [] (aj.mk (.bool y0) [] [])] (bif y0 then .done q1 else .done q) else bif a.kind == 2 then bif a.n == 0
  then .bind (pC a.t) fun y1 => .ag [ao (Env.P dm) 244 [.str a.t] [] (aj.mk (.bool y1) [] [])] (.done (aj.mk (.bool y1) [] [])) else .done q else bif a.kind == 3 then .bind (bz a.n (0 : Int) (1 : Int)) fun y2 => .ag [ao
  (Env.P dm) 45 [aa a.n, aa 0, aa 1] [] (aj.mk (.bool y2) [] [])] (bif y2 then .done q1 else .done q) else bif a.kind == 4 then .bind (lN a.n) fun y3 => .ag [ao (Env.P dm) 110 [aa a.n] [] (aj.mk (.bool y3) [] [])] (bif y3
  then .done q1 else .done q) else .done q : T _) := by kernel_rfl
theorem J4 (a : Int) : ao Tryz.prog Cl [.int .i64 a] [] ⟨.bool false, [], []⟩ := by
 refine bh (E := dm) follows named (Wj a) (by simp) ?_
 simp only [T.WP]
 rw [show (a != a) = false by simp]
 exact aQ
theorem GV (a b : Int) : ao Tryz.prog B4 [.int .i64 a, .int .i64 b] [] ⟨.int .i64 (cI a b), [], []⟩ := by
 refine bh (E := dm) follows named (O7 a b) (by simp) ?_
 simp only [az, T.WP, All, aB, aC, aA]
 rintro _ -
 refine ⟨J4 a, ?_⟩
 rintro _ -
 unfold cI
 refine ⟨J4 b, fun h => ?_, fun h => ⟨fun h2 => ?_, fun h2 => ?_⟩⟩
 ·rw [decide_eq_true h]; exact aQ
 ·rw [decide_eq_false h, decide_eq_true h2]; exact aQ
 ·rw [decide_eq_false h, decide_eq_false h2]; exact aQ
theorem nW (n lo hi : Int) : ao Tryz.prog yr [.int .i64 n, .int .i64 lo, .int .i64 hi] [] ⟨.bool (bz n lo hi), [], []⟩ := by
 refine bh (E := dm) follows named (aj1 n lo hi) (by simp) ?_
 simp only [az, T.WP, aB, aC]
 unfold bz
 refine ⟨fun h => ⟨?_, rfl, by simp⟩, fun h => ⟨?_, rfl, by simp⟩⟩
 ·simp [h]
 ·simp [h]
theorem T2 (n : Int) : ao Tryz.prog Cg [.int .i64 n] [] ⟨.bool (tJ n), [], []⟩ := by
 refine bh (E := dm) follows named (T1 n) (by simp) ?_
 simp only [T.WP, All, aA]
 rintro y rfl
 exact ⟨nW _ _ _, aQ⟩
theorem DG (n : Int) : ao Tryz.prog Ce [.int .i64 n] [] ⟨.bool (lN n), [], []⟩ := by
 refine bh (E := dm) follows named (TZ n) (by simp) ?_
 simp only [T.WP, All, aA]
 rintro y rfl
 exact ⟨nW _ _ _, aQ⟩
def E9 (l : List Int) (i : Int) : St := ⟨ai 18 [(3, .int .i64 0), (6, ab aN l), (7, .int .i64 l.length), (8, .int .i64 i)], [], []⟩
def WJ : Ex -> Kp := fun ex => match ex with
 | .normal => { keep := [3, 6, 7, 8] }
 | .ret => { keep := [2] }
 | _ => { keep := [3] }
theorem K4 (l : List Int) (i : Int) : bx dm 0 WJ (lp Tryz.prog oC 0) (E9 l i) = (
 let q2 := ae aN (ah aN l);
 let q := List.getD q2 i.toNat (0 : Int);
 let q1 := (↑l.length : Int); bif decide (i < q1) then .ag [0 <= i /\ i < q1, List.take 1 (List.drop (i.toNat * 1) (ah aN l)) = [aa q]] (bif List.getD q2 i.toNat (0 : Int) != 0 then .done (Ex.ret, St.mk (ai 18 [(2, aa q)]) []
  []) else .done (Ex.normal, St.mk (ai 18 [(3, aa 0), (6, ab aN l), (7, aa q1), (8, aa (IntKind.i64.wrap (i + 1)))]) [] [])) else .done (Ex.exit 0, St.mk (ai 18 [(3, aa 0)]) [] []) : T _) := by kernel_rfl
noncomputable def JN : Nat -> St -> Option bT := fun id s => match id, s.tm.get 6 with
 | 0, .dsl _ _ cs => some ⟨orF (ae aN cs), fun y => .two { keep := [3, 6, 7, 8] } (E9 (ae aN cs) 0) (y == 0) (.exit 0) ⟨ai 18 [(3, .int .i64 0)], [], []⟩ .ret ⟨ai 18 [(2, .int .i64 y)], [], []⟩⟩
 | _, _ => none
theorem Oz (l : List Int) : fnT { P := Tryz.prog, vw := cq, res := pI, ls := JN } 0 oC [ab aN l] [] = (
 let q1 := ae aN (ah aN l);
 let q := ai 18 [(3, aa 0), (6, ab aN q1), (7, aa (↑q1.length : Int)), (8, aa 0)]; .bind (orF q1) fun y0 => .ag [St.mk (ai 18 [(3, aa 0), (6, ab aN l), (7, aa (↑l.length : Int)), (8, aa 0)]) [] [] = St.mk q [] []]
  (bif y0 == 0 then .ag [aV Tryz.prog 0 (blk Tryz.prog oC 0) (St.mk q [] []) (Ex.exit 0) (St.mk (ai 18 [(3, aa 0)]) [] [])] (.done (aj.mk (aa 0) [] [])) else .ag [aV Tryz.prog 0 (blk Tryz.prog oC 0) (St.mk q []
  []) Ex.ret (St.mk (ai 18 [(2, aa y0)]) [] [])] (.done (aj.mk (aa y0) [] []))) : T _) := (T.force_eq _).symm.trans (by kernel_rfl)
def Ee (c : Int) : St := bif c == 0 then ⟨ai 18 [(3, .int .i64 0)], [], []⟩ else ⟨ai 18 [(2, .int .i64 c)], [], []⟩
theorem GA (l : List Int) (hl : l.length <= 1048576) : ∀ (k i : Nat), i + k = l.length -> a8 Tryz.prog 0 (lp Tryz.prog oC 0) (E9 l i) (mh (orF (l.drop i))) (Ee (orF (l.drop i)))
 | 0, i, hi => by
  have hi : i = l.length := hi
  subst hi
  rw [List.drop_length]
  refine bl (E := dm) follows named (K4 l (l.length : Nat)) ?_
  simp only [az, T.WP, All, aB, aC, aA]
  exact ⟨fun h => af, fun _ => ⟨rfl, rfl⟩⟩
 | k + 1, i, hi => by
  have bH : i < l.length := af
  have aL := ej.at l 0 i 1 bH rfl
  have w1 : IntKind.i64.wrap ((i : Int) + 1) = ((i + 1 : Nat) : Int) := bE af
  have ih := GA l hl k (i + 1) af
  rw [gh 0 bH, orF]
  refine bl (E := dm) follows named (K4 l (i : Nat)) ?_
  simp only [az, T.WP, All, aB, aC, aA, w1, ej.ae, Int.toNat_natCast]
  refine ⟨fun _ => ⟨⟨aK, aL⟩, fun h => ?_, fun h => ?_⟩, fun h => af⟩
  ·have h' : l.getD i 0 ≠ 0 := by simpa using h
   rw [show (l.getD i 0 != 0) = true by simpa using h', cond_true]
   unfold mh Ee
   rw [show (l.getD i 0 == 0) = false by simpa using h']
   exact ⟨rfl, rfl⟩
  ·rw [show (l.getD i 0 != 0) = false by simpa using h, cond_false]
   exact ih
theorem OA (l : List Int) (hl : l.length <= 1048576) : ao Tryz.prog oC [ab aN l] [] ⟨.int .i64 (orF l), [], []⟩ := by
 have h := GA l hl l.length 0 af
 rw [List.drop_zero] at h
 refine bh (E := { P := Tryz.prog, vw := cq, res := pI, ls := JN }) follows named (Oz l) (by simp) ?_
 simp only [az, T.WP, All, aA, aD, aE, aF, ej.ae]
 rintro y e
 rw [<- e] at h ⊢
 unfold mh Ee at h
 refine ⟨bn, fun h1 => ⟨.bg ?_, ?_⟩, fun h1 => ⟨.bg ?_, ?_⟩⟩
 ·rw [show (y == 0) = true by simpa using h1] at h
  exact h
 ·rw [show y = 0 by simpa using h1]; exact aQ
 ·rw [show (y == 0) = false by simpa using h1] at h
  exact h
 ·exact aQ
theorem X6 (a b c : Int) : ao Tryz.prog oC [.sl 0 0 3 true] [some ([.int .i64 a, .int .i64 b, .int .i64 c], mU)] ⟨.int .i64 (orF [a, b, c]), [some ([.int .i64 a, .int .i64 b, .int .i64 c], mU)], []⟩ :=
 ao.DL 3 (cD := [ab aN [a, b, c]]) rfl (OA [a, b, c] (by simp)) rfl
theorem GR (a b : At) : ao Tryz.prog B3 [.agg (ak a), .agg (ak b)] [] ⟨.int .i64 (jJ a b), [], []⟩ := by
 refine bh (E := dm) follows named (O4 a b) (by simp) ?_
 simp only [T.WP, All, aA]
 rintro y0 rfl
 refine ⟨GV _ _, ?_⟩
 rintro y1 rfl
 refine ⟨GV _ _, ?_⟩
 rintro y2 rfl
 refine ⟨O9 _ _, ?_⟩
 rintro y3 rfl
 exact ⟨X6 _ _ _, aQ⟩
theorem GS : ∀ {a b : List UInt8}, a < b -> Lib.compareBytes a b = -1
 | [], [], h => absurd h (List.lt_irrefl _)
 | [], _ :: _, _ => rfl
 | _ :: _, [], h => absurd h (List.not_lt_nil _)
 | a :: x, b :: y, h => by
  rw [Lib.compareBytes]
  rcases List.cons_lt_cons_iff.1 h with h2 | ⟨e, h2⟩
  ·rw [if_pos h2]
  ·subst e
   rw [if_neg (UInt8.lt_irrefl _), if_neg (UInt8.lt_irrefl _)]
   exact GS h2
theorem O6 {a b : At} (h : fR a b) : jJ a b < 0 := by
 unfold fR at h
 unfold jJ
 have c1 : ∀ {x y : Int}, x < y -> cI x y = -1 := fun h => by unfold cI; rw [decide_eq_true h]; rfl
 have c0 : ∀ (x : Int), cI x x = 0 := fun x => by unfold cI; simp
 rcases h with h | ⟨e, h | ⟨e2, h⟩⟩
 ·rw [c1 h]; exact (by decide : (-1 : Int) < 0)
 ·rw [e, c0, c1 h]; exact (by decide : (-1 : Int) < 0)
 ·rw [e, e2, c0, c0, GS h]; exact (by decide : (-1 : Int) < 0)
def nO (c : UInt8) : Bool := decide (32 <= c.toNat) && decide (c.toNat <= 126)
def wR (t : List UInt8) (i : Int) : St := ⟨ai 23 [(0, .str t), (5, .int .i64 t.length), (6, .int .i64 i)], [], []⟩
def Kj : Ex -> Kp := fun ex => match ex with
 | .normal => { keep := [0, 5, 6] }
 | .ret => { keep := [2] }
 | .exit _ => { keep := [0] }
theorem Yz (t : List UInt8) (i : Int) : bx dm 0 Kj (lp Tryz.prog oJ 0) (wR t i) = (
 let q := (↑(UInt8.toNat (List.getD t i.toNat (0 : UInt8))) : Int);
 let q1 := (↑t.length : Int);
 let q2 := ai 23 [(2, .bool false)]; bif decide (i < q1) then .ag [0 <= i /\ i < q1] (bif decide (q < 32) then .done (Ex.ret, St.mk q2 [] []) else .ag [0 <= i /\ i < q1] (bif decide (q > 126) then .done (Ex.ret, St.mk q2 [] []) else
  .done (Ex.normal, St.mk (ai 23 [(0, .str t), (5, aa q1), (6, aa (IntKind.i64.wrap (i + 1)))]) [] []))) else .done (Ex.exit 0, St.mk (ai 23 [(0, .str t)]) [] []) : T _) := by kernel_rfl
theorem Lp (t : List UInt8) (ht : t.length <= 4294967296) :
  (t.all nO = true -> a8 Tryz.prog 0 (lp Tryz.prog oJ 0) (wR t 0) (.exit 0) ⟨ai 23 [(0, .str t)], [], []⟩) /\
  (t.all nO = false -> a8 Tryz.prog 0 (lp Tryz.prog oJ 0) (wR t 0) .ret ⟨ai 23 [(2, .bool false)], [], []⟩) := by
 rw [<- om nO 0 t]
 refine ij (E := dm) (nf := Kj) (st := fun i => wR t (i : Nat)) (n := t.length) _ follows named (by simp) (by simp) (fun i => Yz t (i : Nat)) (fun i hi => ?_) ?_ t.length 0 (by simp)
 ·have hc := (t.getD i 0).toNat_lt
  simp only [az, T.WP, All, aB, aC, aA, Int.toNat_natCast, bE (show i < 9223372036854775807 by omega)]
  cases hg : nO (t.getD i 0) <;> simp only [nO, Bool.and_eq_true, Bool.and_eq_false_iff, decide_eq_true_eq, decide_eq_false_iff_not] at hg
  all_goals ((repeat' with_reducible first | intro _ | apply And.intro) <;> first | omega | rfl | (exfalso; omega) | (simp; done))
 ·simp only [az, T.WP, All, aB, aC, aA]
  ((repeat' with_reducible first | intro _ | apply And.intro) <;> first | omega | rfl | (exfalso; omega) | (simp; done))
noncomputable def JO : Nat -> St -> Option bT := fun id s => match id, s.tm.get 0 with
 | 0, .str t => some ⟨t.all nO, fun y => .two { keep := [0, 5, 6] } (wR t 0) y (.exit 0) ⟨ai 23 [(0, .str t)], [], []⟩ .ret ⟨ai 23 [(2, .bool false)], [], []⟩⟩
 | _, _ => none
theorem YA (t : List UInt8) : fnT { P := Tryz.prog, vw := cq, res := pI, ls := JO } 0 oJ [.str t] [] = (
 let q := ai 23 [(0, .str t), (5, aa (↑t.length : Int)), (6, aa 0)]; .bind (List.all t nO) fun y0 => .ag [St.mk q [] [] = St.mk q [] []] (bif y0 then .ag [aV Tryz.prog 0 (blk Tryz.prog oJ 0) (St.mk q [] []) (Ex.exit 0)
  (St.mk (ai 23 [(0, .str t)]) [] [])] (.done (aj.mk (.bool (decide ((↑t.length : Int) <= 200))) [] [])) else .ag [aV Tryz.prog 0 (blk Tryz.prog oJ 0) (St.mk q [] []) Ex.ret (St.mk (ai 23 [(2, .bool false)]) [] [])] (.done
  (aj.mk (.bool false) [] []))) : T _) := (T.force_eq _).symm.trans (by kernel_rfl)
theorem T3 (t : List UInt8) (ht : t.length <= 4294967296) : ao Tryz.prog oJ [.str t] [] ⟨.bool (pC t), [], []⟩ := by
 refine bh (E := { P := Tryz.prog, vw := cq, res := pI, ls := JO }) follows named (YA t) (by simp) ?_
 simp only [az, T.WP, All, aA]
 rintro y rfl
 refine ⟨bn, fun h => ⟨.bg ((Lp t ht).1 h), ?_, rfl, by simp⟩, fun h => ⟨.bg ((Lp t ht).2 h), ?_, rfl, by simp⟩⟩
 ·exact congrArg V.bool (show _ = (t.all nO && decide (t.length <= 200)) by rw [h, Bool.true_and]; congr 1; exact propext af)
 ·exact congrArg V.bool (show _ = (t.all nO && decide (t.length <= 200)) by rw [h]; rfl)
theorem Om (a : At) (ht : a.t.length <= 4294967296) : ao Tryz.prog BY [.agg (ak a)] [] ⟨.bool (fk a), [], []⟩ := by
 refine bh (E := dm) follows named (Ol a) (by simp) ?_
 have he : ∀ l : List UInt8, (l == []) = l.isEmpty := fun l => by cases l <;> rfl
 simp only [az, T.WP, All, aA, aD, aE, aF, he]
 unfold fk
 refine ⟨fun h1 => ?_, fun h1 => ⟨fun h2 => ⟨fun h0 => ?_, fun h0 => ?_⟩, fun h2 => ⟨fun h3 => ?_, fun h3 => ⟨fun h4 => ?_, fun h4 => ?_⟩⟩⟩⟩
 ·rw [show (a.kind == 1) = true by simpa using h1, cond_true]
  rintro y rfl
  refine ⟨T2 _, fun h => ?_, fun h => ?_⟩
  ·rw [h]; exact aQ
  ·rw [h]; exact aQ
 ·rw [show (a.kind == 1) = false by simpa using h1, show (a.kind == 2) = true by simpa using h2, cond_true, cond_false, show (a.n == 0) = true by simpa using h0]
  rintro y rfl
  exact ⟨T3 _ ht, aQ⟩
 ·rw [show (a.kind == 1) = false by simpa using h1, show (a.kind == 2) = true by simpa using h2, cond_true, cond_false, show (a.n == 0) = false by simpa using h0]
  exact aQ
 ·rw [show (a.kind == 1) = false by simpa using h1, show (a.kind == 2) = false by simpa using h2, show (a.kind == 3) = true by simpa using h3]
  simp only [cond_true, cond_false]
  rintro y rfl
  refine ⟨nW _ _ _, fun h => ?_, fun h => ?_⟩
  ·rw [h]; exact aQ
  ·rw [h]; exact aQ
 ·rw [show (a.kind == 1) = false by simpa using h1, show (a.kind == 2) = false by simpa using h2, show (a.kind == 3) = false by simpa using h3, show (a.kind == 4) = true by simpa using h4]
  simp only [cond_true, cond_false]
  rintro y rfl
  refine ⟨DG _, fun h => ?_, fun h => ?_⟩
  ·rw [h]; exact aQ
  ·rw [h]; exact aQ
 ·rw [show (a.kind == 1) = false by simpa using h1, show (a.kind == 2) = false by simpa using h2, show (a.kind == 3) = false by simpa using h3, show (a.kind == 4) = false by simpa using h4]
  exact aQ
def EY (d : aU) (i : Int) : St := ⟨ai 42 [(0, ab ak d), (5, ab ak d), (6, .int .i64 d.length), (7, .int .i64 i)], [], []⟩
def Wt : Ex -> Kp := fun ex => match ex with
 | .normal => { keep := [0, 5, 6, 7] }
 | .ret => { keep := [2] }
 | .exit _ => { keep := [0] }
theorem Hv (d : aU) (i : Int) : bx dm 0 Wt (lp Tryz.prog sM 0) (EY d i) = (
 let q7 := ah ak d;
 let q4 := ae ak q7;
 let q3 := At.mk (0 : Int) (0 : Int) [];
 let q := List.getD q4 i.toNat q3;
 let q9 := IntKind.i64.wrap (i - 1);
 let q1 := List.getD q4 q9.toNat q3;
 let q5 := (↑d.length : Int);
 let q2 := ai 42 [(0, ab ak d), (5, ab ak d), (6, aa q5), (7, aa (IntKind.i64.wrap (i + 1)))];
 let q6 := ai 42 [(2, .bool false)];
 let q8 := At.mk q.kind q.n q.t; bif decide (i < q5) then .ag [0 <= i /\ i < q5, List.take 3 (List.drop (i.toNat * 3) q7) = ak q] (.bind (fk q8) fun y0 => .ag [ao (Env.P dm) 197 [.agg (ak q)] [] (aj.mk (.bool y0) [] [])]
  (bif !y0 then .done (Ex.ret, St.mk q6 [] []) else .ag [(0 : Int) <= 0 /\ (0 : Int) < q5, List.take 3 (List.drop 0 q7) = ak (List.getD q4 0 q3)] (bif q.kind != At.kind (List.getD q4 0 q3) then .done (Ex.ret, St.mk q6 [] []) else bif
  decide (i > 0) then .ag [0 <= IntKind.i64.wrap (i - 1) /\ IntKind.i64.wrap (i - 1) < q5, List.take 3 (List.drop (q9.toNat * 3) q7) = ak q1] (.bind (jJ (At.mk q1.kind q1.n q1.t) q8) fun y1 => .ag [ao (Env.P dm) 198 [.agg
  (ak q1), .agg (ak q)] [] (aj.mk (aa y1) [] [])] (bif decide (y1 >= 0) then .done (Ex.ret, St.mk q6 [] []) else .done (Ex.normal, St.mk q2 [] []))) else .done (Ex.normal, St.mk q2 [] [])))) else .done (Ex.exit 0, St.mk (ai 42
  [(0, ab ak d)]) [] []) : T _) := by kernel_rfl
noncomputable def JM : Nat -> St -> Option bT := fun id s => match id, s.tm.get 0 with
 | 0, .dsl _ _ cs => some ⟨(), fun _ => .one { keep := [0, 5, 6, 7] } (EY (ae ak cs) 0) (.exit 0) ⟨ai 42 [(0, ab ak (ae ak cs))], [], []⟩⟩
 | _, _ => none
theorem Qd (d : aU) : fnT { P := Tryz.prog, vw := cq, res := pI, ls := JM } 0 sM [ab ak d] [] = (
 let q1 := ae ak (ah ak d);
 let q := ai 42 [(0, ab ak q1), (5, ab ak q1), (6, aa (↑q1.length : Int)), (7, aa 0)]; .bind PUnit.unit fun _ => .ag [St.mk (ai 42 [(0, ab ak d), (5, ab ak d), (6, aa (↑d.length : Int)), (7, aa 0)]) [] [] =
  St.mk q [] [], aV Tryz.prog 0 (blk Tryz.prog sM 0) (St.mk q [] []) (Ex.exit 0) (St.mk (ai 42 [(0, ab ak q1)]) [] [])] (.done (aj.mk (.bool (decide ((↑q1.length : Int) <= 8))) [] [])) : T _) := (T.force_eq _).symm.trans (by kernel_rfl)
theorem Og {a : At} (h : fk a = true) : a.t.length <= 200 := by
 unfold fk at h
 have he : ∀ l : List UInt8, l.isEmpty = true -> l.length <= 200 := fun l h => by
  rw [List.isEmpty_iff] at h; rw [h]; simp
 cases h1 : a.kind == 1 <;> rw [h1] at h <;> simp only [cond_true, cond_false] at h
 ·cases h2 : a.kind == 2 <;> rw [h2] at h <;> simp only [cond_true, cond_false] at h
  ·cases h3 : a.kind == 3 <;> rw [h3] at h <;> simp only [cond_true, cond_false] at h
   ·cases h4 : a.kind == 4 <;> rw [h4] at h <;> simp only [cond_true, cond_false] at h
    ·cases h
    ·exact he _ (Bool.and_eq_true_iff.1 h).2
   ·exact he _ (Bool.and_eq_true_iff.1 h).2
  ·have := (Bool.and_eq_true_iff.1 h).2
   unfold pC at this
   simpa using (Bool.and_eq_true_iff.1 this).2
 ·exact he _ (Bool.and_eq_true_iff.1 h).2
theorem b7.lt {k : Int} {d : aU} (h : b7 k d) {i : Nat} (hi : i + 1 < d.length) (z : At) : fR (d.getD i z) (d.getD (i + 1) z) := by
 have := List.pairwise_iff_getElem.1 h.pw i (i + 1) (by omega) hi (by omega)
 rw [List.getD_eq_getElem?_getD, List.getD_eq_getElem?_getD, List.getElem?_eq_getElem hi, List.getElem?_eq_getElem (show i < d.length by omega)]
 exact this
theorem Hw {k : Int} {d : aU} (h : b7 k d) (hl : d.length <= 1048576) : ∀ (m i : Nat), i + m = d.length -> a8 Tryz.prog 0 (lp Tryz.prog sM 0) (EY d i) (.exit 0) ⟨ai 42 [(0, ab ak d)], [], []⟩
 | 0, i, hi => by
  have hi : i = d.length := hi
  subst hi
  refine bl (E := dm) follows named (Hv d (d.length : Nat)) ?_
  simp only [az, T.WP, All, aB, aC, aA]
  exact ⟨fun h => by omega, fun _ => ⟨rfl, rfl⟩⟩
 | m + 1, i, hi => by
  have bH : i < d.length := by omega
  have aL := bq.at d ⟨0, 0, []⟩ i 3 bH rfl
  have vg := bq.at d ⟨0, 0, []⟩ 0 3 (by omega) rfl
  have eP := h.ok _ (bP ⟨0, 0, []⟩ bH)
  have De := h.ok _ (bP ⟨0, 0, []⟩ (show 0 < d.length by omega))
  have hA := Om (d.getD i ⟨0, 0, []⟩) (by have := Og eP.1; omega)
  have w1 : IntKind.i64.wrap ((i : Int) + 1) = ((i + 1 : Nat) : Int) := bE (by omega)
  have ih := Hw h hl m (i + 1) (by omega)
  rw [Nat.zero_mul] at vg
  refine bl (E := dm) follows named (Hv d (i : Nat)) ?_
  simp only [az, T.WP, All, aB, aC, aA, w1, bq.ae, Int.toNat_natCast]
  refine ⟨fun _ => ⟨⟨aK, aL⟩, ?_⟩, fun h => by omega⟩
  rintro y0 e0
  have e0 : y0 = fk (d.getD i ⟨0, 0, []⟩) := e0
  rw [<- e0] at hA
  have hy : y0 = true := by rw [e0]; exact eP.1
  refine ⟨hA, fun hn => ?_, fun _ => ⟨⟨aK, vg⟩, fun hn => ?_, fun _ => ⟨fun hp => ?_, fun _ => ih⟩⟩⟩
  ·rw [hy] at hn; cases hn
  ·exfalso
   rw [eP.2, De.2] at hn
   simp at hn
  ·have IH : 1 <= i := by omega
   have w2 : IntKind.i64.wrap ((i : Int) - 1) = ((i - 1 : Nat) : Int) := by rw [cQ (by omega)]; omega
   have cA := bq.at d ⟨0, 0, []⟩ (i - 1) 3 (by omega) rfl
   have bO := h.lt (i := i - 1) (by omega) ⟨0, 0, []⟩
   rw [show i - 1 + 1 = i by omega] at bO
   rw [w2]
   simp only [Int.toNat_natCast]
   refine ⟨⟨aK, cA⟩, ?_⟩
   rintro y1 rfl
   refine ⟨GR _ _, fun hg => ?_, fun _ => ih⟩
   have hc : jJ (d.getD (i - 1) ⟨0, 0, []⟩) (d.getD i ⟨0, 0, []⟩) >= 0 := hg
   have := O6 bO
   exact absurd hc (by omega)
theorem He {k : Int} {d : aU} (h : b7 k d) (hl : d.length <= 8) : ao Tryz.prog sM [ab ak d] [] ⟨.bool true, [], []⟩ := by
 have gY := Hw h (by omega) d.length 0 (by omega)
 refine bh (E := { P := Tryz.prog, vw := cq, res := pI, ls := JM }) follows named (Qd d) (by simp) ?_
 simp only [T.WP, All, aA, bq.ae]
 rintro _ -
 refine ⟨⟨bn, .bg gY⟩, ?_⟩
 rw [decide_eq_true (show (d.length : Int) <= 8 by omega)]
 exact ⟨rfl, rfl, by simp⟩
abbrev B7 : Nat := 120
abbrev qo : Nat := 196
abbrev oH : Nat := 195
abbrev Cm : Nat := 123
abbrev B2 : Nat := 125
abbrev yc : Nat := 56
abbrev qp : Nat := 46
def eB (nm : List UInt8) : Option bM := some ([.str nm], pT)
def OB : bt := ⟨iq, 4, 0, 1, 0, 0, [], false⟩
def py (t : Tb) (nm : List UInt8) : bt × Bool := bif decide (0 <= bf t nm) then (t.aw.getD (bf t nm).toNat .zero, true) else bif nm == iq then (OB, true) else (.zero, false)
def uR (y : bt × Bool) (c : a6) : Int :=
 bif !y.2 then 11
 else bif decide ((c.val.length : Int) > 0) && (c.val.getD 0 .zero).kind != y.1.kind then 9
 else bif bz c.func 3 6 && (y.1.kind != 1 || (y.1.max != 1 || (c.val.length : Int) != 1)) then 9 else 0
def jv (t : Tb) (c : a6) : Int := uR (py t c.aG) c
noncomputable def pJ : cP := fun f vs hp => match vs, hp with
 | [.agg [.str a, .int _ _, .int _ _, .int _ _, .int _ _, .int _ _, .str _, .bool _], .ptr 0 0], [some ([.str nm], T)] => bif Nat.beq f qo then some ⟨a == nm, fun y => ⟨.bool y, [some ([.str nm], T)], []⟩⟩ else none
 | [.dsl _ _ cs, .fn g [.ptr 0 0]], [some ([.str nm], T)] => bif Nat.beq f oH && Nat.beq g qo then some ⟨fidx (fun c : bt => c.name == nm) (ae ba cs) 0, fun y => ⟨.int .i64 y, [some ([.str nm], T)], []⟩⟩ else none
 | [.agg [.str tn, .dsl _ _ cc, .dsl _ _ uu, .bool r], .str nm], [] => bif Nat.beq f B7 then some ⟨bf (bw tn cc uu r) nm, fun y => ⟨.int .i64 y, [], []⟩⟩ else bif Nat.beq f Cm then some ⟨py (bw tn cc uu r) nm, fun y => ⟨.tup [.agg (ba y.1), .bool y.2], [], []⟩⟩ else none
 | [.agg [.str tn, .dsl _ _ cc, .dsl _ _ uu, .bool r], .agg [.int _ d, .dsl _ _ cs], .str nm], [] => bif Nat.beq f B2 then some ⟨dS (bw tn cc uu r) ⟨d, ae a7 cs⟩ nm, fun y => ⟨ab ak y, [], []⟩⟩ else none
 | [.agg [.str tn, .dsl _ _ cc, .dsl _ _ uu, .bool r], .agg [.str cn, .int _ fn, .dsl _ _ va]], [] => bif Nat.beq f yc then some ⟨jv (bw tn cc uu r) ⟨cn, fn, ae ak va⟩, fun y => ⟨.int .i64 y, [], []⟩⟩ else none
 | _, _ => pI f vs hp
noncomputable def fi : Env := { P := Tryz.prog, vw := cq, res := pJ }
def wH (l : List bt) (nm : List UInt8) (i : Int) : St := ⟨ai 19 [(0, ab ba l), (1, .fn qo [.ptr 0 0]), (7, .int .i64 l.length), (8, .int .i64 i)], [eB nm], []⟩
def kW : Ex -> Kp := fun ex => match ex with
 | .normal => { keep := [0, 1, 7, 8] }
 | .ret => { keep := [4] }
 | _ => { keep := [] }
theorem OV (c : bt) (nm : List UInt8) : fnT fi 0 qo [.agg (ba c), .ptr 0 0] [eB nm] = (
 .done (aj.mk (.bool (c.name == nm)) [eB nm] []) : T _) := (T.force_eq _).symm.trans (by kernel_rfl)
theorem TC (l : List bt) (nm : List UInt8) (i : Int) : bx fi 1 kW (lp Tryz.prog oH 0) (wH l nm i) = (
 let q := List.getD (ae ba (ah ba l)) i.toNat (bt.mk [] (0 : Int) (0 : Int) (0 : Int) (0 : Int) (0 : Int) [] false);
 let q1 := (↑l.length : Int); bif decide (i < q1) then .ag [0 <= i /\ i < q1, List.take 8 (List.drop (i.toNat * 8) (ah ba l)) = ba q] (.bind (q.name == nm) fun y0 => .ag [ao (Env.P fi) 196 [.agg (ba q), .ptr 0 0] [eB
  nm] (aj.mk (.bool y0) [eB nm] [])] (bif y0 then .done (Ex.ret, St.mk (ai 19 [(4, aa i)]) [eB nm] []) else .done (Ex.normal, St.mk (ai 19 [(0, ab ba l), (1, .fn 196 [.ptr 0 0]), (7, aa q1), (8, aa (IntKind.i64.wrap (i +
  1)))]) [eB nm] []))) else .done (Ex.exit 0, St.mk (ai 19 []) [eB nm] []) : T _) := by kernel_rfl
noncomputable def UL : Nat -> St -> Option bT := fun id s => match id, s.tm.get 0, s.hp with
 | 0, .dsl _ _ cs, some ([.str nm], _) :: _ => some ⟨fidx (fun c : bt => c.name == nm) (ae ba cs) 0, fun y => .two { keep := [0, 1, 7, 8] } (wH (ae ba cs) nm 0) (decide (y < 0)) (.exit 0) ⟨ai 19 [], [eB nm], []⟩ .ret ⟨ai 19 [(4, .int .i64 y)], [eB nm], []⟩⟩
 | _, _, _ => none
noncomputable def xy : Env := { P := Tryz.prog, vw := cq, res := pJ, ls := UL }
theorem TD (l : List bt) (nm : List UInt8) : fnT xy 0 oH [ab ba l, .fn qo [.ptr 0 0]] [eB nm] = (
 let q1 := ae ba (ah ba l);
 let q := ai 19 [(0, ab ba q1), (1, .fn 196 [.ptr 0 0]), (7, aa (↑q1.length : Int)), (8, aa 0)]; .bind (fidx (fun c => c.name == nm) q1 0) fun y0 => .ag [St.mk (ai 19 [(0, ab ba l), (1, .fn 196 [.ptr 0 0]), (7, aa
  (↑l.length : Int)), (8, aa 0)]) [eB nm] [] = St.mk q [eB nm] []] (bif decide (y0 < 0) then .ag [aV (Env.P xy) 1 (blk Tryz.prog oH 0) (St.mk q [eB nm] []) (Ex.exit 0) (St.mk (ai 19 []) [eB nm] [])] (.done (aj.mk (aa
  (-1 : Int)) [eB nm] [])) else .ag [aV (Env.P xy) 1 (blk Tryz.prog oH 0) (St.mk q [eB nm] []) Ex.ret (St.mk (ai 19 [(4, aa y0)]) [eB nm] [])] (.done (aj.mk (aa y0) [eB nm] []))) : T _) := (T.force_eq _).symm.trans (by kernel_rfl)
theorem Pk (t : Tb) (nm : List UInt8) : fnT fi 0 B7 [.agg (aq t), .str nm] [] = (
 .bind (fidx (fun c => c.name == nm) (ae ba (ah ba t.aw)) 0) fun y0 => .ag [ao (Env.P fi) 195 [ab ba t.aw, .fn 196 [.ptr 0 0]] [eB nm] (aj.mk (aa y0) [eB nm] [])] (.done (aj.mk (aa y0) [] [])) : T _) := (T.force_eq _).symm.trans (by kernel_rfl)
theorem Wh (t : Tb) (nm : List UInt8) : fnT fi 0 Cm [.agg (aq t), .str nm] [] = (
 let q := ah ba t.aw;
 let q1 := bt.mk [] (0 : Int) (0 : Int) (0 : Int) (0 : Int) (0 : Int) [] false; .bind (bf (bw t.name q (ah aN t.uniq) t.root) nm) fun y0 =>
 let q2 := List.getD (ae ba q) y0.toNat q1; .ag [ao (Env.P fi) 120 [.agg (aq t), .str nm] [] (aj.mk (aa y0) [] [])] (bif decide (y0 >= 0) then .ag [0 <= y0 /\ y0 < (↑t.aw.length : Int), List.take 8 (List.drop (y0.toNat *
  8) q) = ba q2] (.done (aj.mk (.tup [.agg (ba q2), .bool true]) [] [])) else bif nm == [(95 : UInt8), 117, 117, 105, 100] then .done (aj.mk (.tup [.agg [.str [95, 117, 117, 105, 100], aa 4, aa 0, aa 1, aa 0, aa 0, .str
  [], .bool false], .bool true]) [] []) else .done (aj.mk (.tup [.agg [.str [], aa 0, aa 0, aa 0, aa 0, aa 0, .str [], .bool false], .bool false]) [] [])) : T _) := (T.force_eq _).symm.trans (by kernel_rfl)
theorem OM (t : Tb) (r : Rw) (nm : List UInt8) : fnT fi 0 B2 [.agg (aq t), .agg (av r), .str nm] [] = (
 let q := ah a7 r.cells; .bind (bf (bw t.name (ah ba t.aw) (ah aN t.uniq) t.root) nm) fun y0 =>
 let q1 := List.getD (ae a7 q) y0.toNat []; .ag [ao (Env.P fi) 120 [.agg (aq t), .str nm] [] (aj.mk (aa y0) [] [])] (bif decide (y0 >= 0) then .ag [0 <= y0 /\ y0 < (↑r.cells.length : Int), List.take 1 (List.drop (y0.toNat *
  1) q) = [ab ak q1]] (.done (aj.mk (ab ak q1) [] [])) else .done (aj.mk (.dsl 1 false [aa 4, aa r.id, .str []]) [] [])) : T _) := (T.force_eq _).symm.trans (by kernel_rfl)
theorem Po (t : Tb) (c : a6) : fnT fi 0 yc [.agg (aq t), .agg (aH c)] [] = (
 let q := aj.mk (aa 9) [] [];
 let q1 := (↑c.val.length : Int);
 let q2 := List.getD (ae ak (ah ak c.val)) 0 (At.mk (0 : Int) (0 : Int) []);
 let q3 := aj.mk (aa 0) [] [];
 let q4 : List V := [aa c.func, aa 3, aa 6];
 let q5 := bz c.func (3 : Int) (6 : Int); .bind (py (bw t.name (ah ba t.aw) (ah aN t.uniq) t.root) c.aG) fun y0 => .ag [ao (Env.P fi) 123 [.agg (aq t), .str c.aG] [] (aj.mk (.tup [.agg (ba y0.1), .bool
  y0.2]) [] [])] (bif !y0.2 then .done (aj.mk (aa 11) [] []) else bif decide (q1 > 0) then .ag [(0 : Int) <= 0 /\ (0 : Int) < q1, List.take 3 (List.drop 0 (ah ak c.val)) = (ak q2)] (bif q2.kind != y0.1.kind then .done q else
  .bind q5 fun y1 => .ag [ao (Env.P fi) 45 q4 [] (aj.mk (.bool y1) [] [])] (bif y1 then bif y0.1.kind != 1 then .done q else bif y0.1.max != 1 then .done q else bif q1 != 1 then .done q else .done q3 else .done q3)) else .bind q5
  fun y2 => .ag [ao (Env.P fi) 45 q4 [] (aj.mk (.bool y2) [] [])] (bif y2 then bif y0.1.kind != 1 then .done q else bif y0.1.max != 1 then .done q else bif q1 != 1 then .done q else .done q3 else .done q3)) : T _) := (T.force_eq _).symm.trans (by kernel_rfl)
theorem OW (c : bt) (nm : List UInt8) : ao Tryz.prog qo [.agg (ba c), .ptr 0 0] [eB nm] ⟨.bool (c.name == nm), [eB nm], []⟩ := by
 refine bh (E := fi) follows named (OV c nm) (by simp) ?_
 simp only [T.WP]
 exact aQ
theorem TE (l : List bt) (nm : List UInt8) (h : l.length <= 1048576) :
  (fidx (fun c : bt => c.name == nm) l 0 < 0 -> a8 Tryz.prog 1 (lp Tryz.prog oH 0) (wH l nm 0) (.exit 0) ⟨ai 19 [], [eB nm], []⟩) /\
  (0 <= fidx (fun c : bt => c.name == nm) l 0 -> a8 Tryz.prog 1 (lp Tryz.prog oH 0) (wH l nm 0) .ret ⟨ai 19 [(4, .int .i64 (fidx (fun c : bt => c.name == nm) l 0))], [eB nm], []⟩) := by
 refine lA (E := fi) (m := 1) (nf := kW) (st := fun i => wH l nm (i : Nat)) (sr := fun j => ⟨ai 19 [(4, .int .i64 j)], [eB nm], []⟩) (fun c : bt => c.name == nm) l ⟨[], 0, 0, 0, 0, 0, [], false⟩ follows named (by simp) (by simp) (fun i => TC l nm (i : Nat)) (fun i hi => ?_) ?_ l.length 0 (by simp)
 ·have aL := cR.at l ⟨[], 0, 0, 0, 0, 0, [], false⟩ i 8 hi rfl
  simp only [az, T.WP, All, aB, aC, aA, Int.toNat_natCast, cR.ae, bE (show i < 9223372036854775807 by omega)]
  refine ⟨fun _ => ⟨⟨aK, aL⟩, ?_⟩, fun h => by omega⟩
  rintro y rfl
  refine ⟨OW _ nm, fun h => ?_, fun h => ?_⟩
  ·rw [h]; rfl
  ·rw [h]; rfl
 ·simp only [az, T.WP, All, aB, aC, aA]
  exact ⟨fun h => by omega, fun _ => trivial⟩
theorem TF (l : List bt) (nm : List UInt8) (h : l.length <= 1048576) : ao Tryz.prog oH [ab ba l, .fn qo [.ptr 0 0]] [eB nm] ⟨.int .i64 (fidx (fun c : bt => c.name == nm) l 0), [eB nm], []⟩ := by
 have hl := TE l nm h
 refine bh (E := xy) follows named (TD l nm) (by simp) ?_
 simp only [az, T.WP, All, aB, aC, aA, cR.ae]
 rintro y rfl
 refine ⟨bn, fun h0 => ⟨.bg (hl.1 h0), ?_⟩, fun h0 => ⟨.bg (hl.2 af), aQ⟩⟩
 have e : fidx (fun c : bt => c.name == nm) l 0 = -1 := by
  rcases jN (fun c : bt => c.name == nm) l 0 with h2 | h2 <;> omega
 rw [e]; exact aQ
theorem G6 (t : Tb) (nm : List UInt8) (h : t.aw.length <= 1048576) : ao Tryz.prog B7 [.agg (aq t), .str nm] [] ⟨.int .i64 (bf t nm), [], []⟩ := by
 refine bh (E := fi) follows named (Pk t nm) (by simp) ?_
 simp only [T.WP, All, aA, cR.ae]
 rintro y rfl
 exact ⟨TF _ nm h, aQ⟩
theorem Wg (t : Tb) (nm : List UInt8) (h : t.aw.length <= 1048576) : ao Tryz.prog Cm [.agg (aq t), .str nm] [] ⟨.tup [.agg (ba (py t nm).1), .bool (py t nm).2], [], []⟩ := by
 refine bh (E := fi) follows named (Wh t nm) (by simp) ?_
 have bO := @mi t nm
 unfold py
 simp only [az, T.WP, All, aB, aC, aA, aD, aE, aF, cR.ae, cm]
 rintro y rfl
 refine ⟨G6 t nm h, fun h0 => ⟨⟨by have := bO h0; omega, cR.at t.aw ⟨[], 0, 0, 0, 0, 0, [], false⟩ _ 8 (bO h0) rfl⟩, ?_⟩, fun h0 => ⟨fun h1 => ?_, fun h1 => ?_⟩⟩
 ·rw [decide_eq_true (show 0 <= bf t nm from h0), cond_true]; exact ⟨rfl, rfl, by simp⟩
 ·rw [decide_eq_false (show ¬ 0 <= bf t nm by omega), cond_false, show (nm == iq) = true by simpa [iq] using h1, cond_true]; exact ⟨rfl, rfl, by simp⟩
 ·rw [decide_eq_false (show ¬ 0 <= bf t nm by omega), cond_false, show (nm == iq) = false by simpa [iq] using h1, cond_false]; exact ⟨rfl, rfl, by simp⟩
theorem ON {t : Tb} {r : Rw} (hr : ji t r) (nm : List UInt8) : ao Tryz.prog B2 [.agg (aq t), .agg (av r), .str nm] [] ⟨ab ak (dS t r nm), [], []⟩ := by
 refine bh (E := fi) follows named (OM t r nm) (by simp) ?_
 have bO := hr.at nm
 unfold dS
 simp only [az, T.WP, All, aB, aC, aA, bV.ae, cm]
 rintro y rfl
 refine ⟨G6 t nm hr.k, fun h0 => ⟨⟨by have := bO h0; omega, bV.at r.cells [] _ 1 (bO h0) rfl⟩, ?_⟩, fun h0 => ?_⟩
 ·rw [decide_eq_false (show ¬ bf t nm < 0 by omega), cond_false]; exact ⟨rfl, rfl, by simp⟩
 ·rw [decide_eq_true (show bf t nm < 0 by omega), cond_true]; exact ⟨rfl, rfl, by simp⟩
theorem BH (t : Tb) (c : a6) (h : t.aw.length <= 1048576) : ao Tryz.prog yc [.agg (aq t), .agg (aH c)] [] ⟨.int .i64 (jv t c), [], []⟩ := by
 refine bh (E := fi) follows named (Po t c) (by simp) ?_
 have eG := Wg t c.aG h
 unfold jv
 simp only [az, T.WP, All, aB, aC, aA, bq.ae, cm]
 rintro y e
 rw [<- e] at eG ⊢
 clear e
 unfold uR
 simp only [At.zero]
 have aL : 0 < c.val.length -> List.take 3 (List.drop 0 (ah ak c.val)) = ak (c.val.getD 0 ⟨0, 0, []⟩) := fun h => by
  have := bq.at c.val ⟨0, 0, []⟩ 0 3 h rfl
  rwa [Nat.zero_mul] at this
 have tail : ∀ z : Bool, z = bz c.func 3 6 -> (ao fi.P 45 [V.int IntKind.i64 c.func, V.int IntKind.i64 3, V.int IntKind.i64 6] [] ⟨V.bool z, [], []⟩) := by
  rintro z rfl
  exact nW _ _ _
 refine ⟨eG, fun h1 => ?_, fun h1 => ⟨fun h2 => ⟨⟨af, aL af⟩, fun h3 => ?_, fun h3 => ?_⟩, fun h2 => ?_⟩⟩
 ·refine ⟨?_, rfl, by simp⟩
  simp_all [Bool.cond_eq_ite]
 ·refine ⟨?_, rfl, by simp⟩
  simp_all [Bool.cond_eq_ite]
 ·rintro z e
  refine ⟨tail z e, fun h4 => ⟨fun h5 => ?_, fun h5 => ⟨fun h6 => ?_, fun h6 => ⟨fun h7 => ?_, fun h7 => ?_⟩⟩⟩, fun h4 => ?_⟩
  all_goals
   refine ⟨?_, rfl, by simp⟩
   simp_all [Bool.cond_eq_ite]
 ·rintro z e
  refine ⟨tail z e, fun h4 => ⟨fun h5 => ?_, fun h5 => ⟨fun h6 => ?_, fun h6 => ⟨fun h7 => ?_, fun h7 => ?_⟩⟩⟩, fun h4 => ?_⟩
  all_goals
   refine ⟨?_, rfl, by simp⟩
   simp_all [Bool.cond_eq_ite]
abbrev yd : Nat := 55
abbrev ye : Nat := 43
abbrev ml : Nat := 109
abbrev yo : Nat := 122
abbrev mv : Nat := 200
abbrev Ca : Nat := 199
abbrev oI : Nat := 247
abbrev sK : Nat := 108
abbrev jL : Nat := 187
def E5 (t : Tb) (l : List a6) (i : Int) : St := ⟨ai 21 [(2, .ptr 0 0), (8, ab aH l), (9, .int .i64 l.length), (10, .int .i64 i)], [some (aq t, fO)], []⟩
def Wz : Ex -> Kp := fun ex => match ex with
 | .normal => { keep := [2, 8, 9, 10] }
 | .ret => { keep := [4] }
 | _ => { keep := [] }
theorem JB (t : Tb) (l : List a6) (i : Int) : bx fi 0 Wz (lp Tryz.prog qp 0) (E5 t l i) = (
 let q := List.getD (ae aH (ah aH l)) i.toNat (a6.mk [] (0 : Int) []);
 let q1 := (↑l.length : Int); bif decide (i < q1) then .ag [0 <= i /\ i < q1, List.take 3 (List.drop (i.toNat * 3) (ah aH l)) = (aH q)] (.bind (jv (bw t.name (ah ba t.aw) (ah aN t.uniq) t.root) (a6.mk q.aG
  q.func (ae ak (ah ak q.val)))) fun y0 => .ag [ao (Env.P fi) 56 [.agg (aq t), .agg (aH q)] [] (aj.mk (aa y0) [] [])] (bif y0 != 0 then .done (Ex.ret, St.mk (ai 21 [(4, aa y0)]) [] []) else .done (Ex.normal,
  St.mk (ai 21 [(2, .ptr 0 0), (8, ab aH l), (9, aa q1), (10, aa (IntKind.i64.wrap (i + 1)))]) [some ((aq t), 44)] []))) else .done (Ex.exit 0, St.mk (ai 21 []) [] []) : T _) := by kernel_rfl
noncomputable def US : Nat -> St -> Option bT := fun id s => match id, s.tm.get 8, s.hp with
 | 0, .dsl _ _ cs, some ([.str tn, .dsl _ _ cc, .dsl _ _ uu, .bool q], _) :: _ => some ⟨firstC (jv (bw tn cc uu q)) (ae aH cs), fun y => .two { keep := [2, 8, 9, 10] } (E5 (bw tn cc uu q) (ae aH cs) 0) (y == 0) (.exit 0) ⟨ai 21 [], [], []⟩ .ret ⟨ai 21 [(4, .int .i64 y)], [], []⟩⟩
 | _, _, _ => none
noncomputable def xB : Env := { P := Tryz.prog, vw := cq, res := pJ, ls := US }
theorem Uf (t : Tb) (l : List a6) : fnT xB 0 qp [.agg (aq t), ab aH l] [] = (
 let q2 := ae aH (ah aH l);
 let q := ai 21 [(2, .ptr 0 0), (8, ab aH q2), (9, aa (↑q2.length : Int)), (10, aa 0)];
 let q1 := bw t.name (ah ba t.aw) (ah aN t.uniq) t.root;
 let q3 : Hp := [some ((aq q1), 44)]; .bind (firstC (jv q1) q2) fun y0 => .ag [St.mk (ai 21 [(2, .ptr 0 0), (8, ab aH l), (9, aa (↑l.length : Int)), (10, aa 0)]) [some ((aq t), 44)] [] = St.mk q q3 []] (bif y0 == 0
  then .ag [aV (Env.P xB) 0 (blk Tryz.prog qp 0) (St.mk q q3 []) (Ex.exit 0) (St.mk (ai 21 []) [] [])] (.done (aj.mk (aa 0) [] [])) else .ag [aV (Env.P xB) 0 (blk Tryz.prog qp 0) (St.mk q q3 []) Ex.ret (St.mk
  (ai 21 [(4, aa y0)]) [] [])] (.done (aj.mk (aa y0) [] []))) : T _) := (T.force_eq _).symm.trans (by kernel_rfl)
def DH (c : Int) : St := bif c == 0 then ⟨ai 21 [], [], []⟩ else ⟨ai 21 [(4, .int .i64 c)], [], []⟩
theorem JC (t : Tb) (l : List a6) (ht : t.aw.length <= 1048576) (hl : l.length <= 1048576) : ∀ (k i : Nat), i + k = l.length -> a8 Tryz.prog 0 (lp Tryz.prog qp 0) (E5 t l i) (mh (firstC (jv t) (l.drop i))) (DH (firstC (jv t) (l.drop i)))
 | 0, i, hi => by
  have hi : i = l.length := hi
  subst hi
  rw [List.drop_length]
  refine bl (E := fi) follows named (JB t l (l.length : Nat)) ?_
  simp only [az, T.WP, All, aB, aC, aA]
  exact ⟨fun h => af, fun _ => ⟨rfl, rfl⟩⟩
 | k + 1, i, hi => by
  have bH : i < l.length := af
  have aL := cg.at l ⟨[], 0, []⟩ i 3 bH rfl
  have w1 : IntKind.i64.wrap ((i : Int) + 1) = ((i + 1 : Nat) : Int) := bE af
  have ih := JC t l ht hl k (i + 1) af
  have hc := BH t (l.getD i ⟨[], 0, []⟩) ht
  rw [gh ⟨[], 0, []⟩ bH, firstC]
  refine bl (E := fi) follows named (JB t l (i : Nat)) ?_
  simp only [az, T.WP, All, aB, aC, aA, w1, cg.ae, bq.ae, cm, Int.toNat_natCast]
  refine ⟨fun _ => ⟨⟨aK, aL⟩, ?_⟩, fun h => af⟩
  rintro y e
  have e : y = jv t (l.getD i ⟨[], 0, []⟩) := e
  rw [<- e] at hc ⊢
  refine ⟨hc, fun h => ?_, fun h => ?_⟩
  ·have h' : y ≠ 0 := by simpa using h
   rw [show (y != 0) = true by simpa using h', cond_true]
   unfold mh DH
   rw [show (y == 0) = false by simpa using h']
   exact ⟨rfl, rfl⟩
  ·rw [show (y != 0) = false by simpa using h, cond_false]
   exact ih
theorem G8 (t : Tb) (l : List a6) (ht : t.aw.length <= 1048576) (hl : l.length <= 1048576) : ao Tryz.prog qp [.agg (aq t), ab aH l] [] ⟨.int .i64 (firstC (jv t) l), [], []⟩ := by
 have h := JC t l ht hl l.length 0 af
 rw [List.drop_zero] at h
 refine bh (E := xB) follows named (Uf t l) (by simp) ?_
 simp only [az, T.WP, All, aA, aD, aE, aF, cg.ae, cm]
 rintro y e
 have e : y = firstC (jv t) l := e
 rw [<- e] at h ⊢
 unfold mh DH at h
 refine ⟨bn, fun h1 => ⟨.bg ?_, ?_⟩, fun h1 => ⟨.bg ?_, ?_⟩⟩
 ·rw [show (y == 0) = true by simpa using h1] at h
  exact h
 ·rw [show y = 0 by simpa using h1]; exact aQ
 ·rw [show (y == 0) = false by simpa using h1] at h
  exact h
 ·exact aQ
noncomputable def rq : cP := fun f vs hp => match vs, hp with
 | [.str t], [] => bif Nat.beq f mv then some ⟨decide (40 < t.length), fun y => ⟨.bool y, [], []⟩⟩ else pJ f vs hp
 | [.dsl _ _ cs, .fn g []], [] =>
  bif Nat.beq f oI && Nat.beq g mv then some ⟨fidx (fun t : List UInt8 => decide (40 < t.length)) (ae aW cs) 0, fun y => ⟨.int .i64 y, [], []⟩⟩ else
  bif Nat.beq f Ca && Nat.beq g mv then some ⟨decide (0 <= fidx (fun t : List UInt8 => decide (40 < t.length)) (ae aW cs) 0), fun y => ⟨.bool y, [], []⟩⟩ else
  bif Nat.beq f jL && Nat.beq g ml then some ⟨(), fun _ => ⟨.int .i64 (-1), [], []⟩⟩ else
  bif Nat.beq f sK && Nat.beq g ml then some ⟨(), fun _ => ⟨.bool false, [], []⟩⟩ else none
 | [.sl 0 0 1 _], [some ([.str t], T)] => bif Nat.beq f yo then some ⟨decide (t.length <= 40), fun y => ⟨.bool y, [some ([.str t], T)], []⟩⟩ else pJ f vs hp
 | [.agg [.str _, .int _ _, .dsl _ _ _]], [] => bif Nat.beq f yd then some ⟨(), fun _ => ⟨.bool true, [], []⟩⟩ else bif Nat.beq f ml then some ⟨(), fun _ => ⟨.bool false, [], []⟩⟩ else pJ f vs hp
 | [.dsl _ _ _], [] => bif Nat.beq f sM then some ⟨(), fun _ => ⟨.bool true, [], []⟩⟩ else bif Nat.beq f ye then some ⟨(), fun _ => ⟨.bool true, [], []⟩⟩ else pJ f vs hp
 | _, _ => pJ f vs hp
noncomputable def eb : Env := { P := Tryz.prog, vw := cq, res := rq }
theorem ab2 (t : List UInt8) : fnT eb 0 mv [.str t] [] = (
 .done (aj.mk (.bool (decide ((↑t.length : Int) > 40))) [] []) : T _) := (T.force_eq _).symm.trans (by kernel_rfl)
def wM (l : List (List UInt8)) (i : Int) : St := ⟨ai 19 [(0, ab aW l), (1, .fn mv []), (7, .int .i64 l.length), (8, .int .i64 i)], [], []⟩
theorem T0 (l : List (List UInt8)) (i : Int) : bx eb 0 kW (lp Tryz.prog oI 0) (wM l i) = (
 let q := List.getD (ae aW (ah aW l)) i.toNat [];
 let q1 := (↑l.length : Int); bif decide (i < q1) then .ag [0 <= i /\ i < q1, List.take 1 (List.drop (i.toNat * 1) (ah aW l)) = [.str q]] (.bind (decide (40 < q.length)) fun y0 => .ag [ao (Env.P eb) 200 [.str q] [] (aj.mk
  (.bool y0) [] [])] (bif y0 then .done (Ex.ret, St.mk (ai 19 [(4, aa i)]) [] []) else .done (Ex.normal, St.mk (ai 19 [(0, ab aW l), (1, .fn 200 []), (7, aa q1), (8, aa (IntKind.i64.wrap (i + 1)))]) [] []))) else .done
  (Ex.exit 0, St.mk (ai 19 []) [] []) : T _) := by kernel_rfl
noncomputable def UQ : Nat -> St -> Option bT := fun id s => match id, s.tm.get 0 with
 | 0, .dsl _ _ cs => some ⟨fidx (fun t : List UInt8 => decide (40 < t.length)) (ae aW cs) 0, fun y => .two { keep := [0, 1, 7, 8] } (wM (ae aW cs) 0) (decide (y < 0)) (.exit 0) ⟨ai 19 [], [], []⟩ .ret ⟨ai 19 [(4, .int .i64 y)], [], []⟩⟩
 | _, _ => none
noncomputable def xA : Env := { P := Tryz.prog, vw := cq, res := rq, ls := UQ }
theorem T4 (l : List (List UInt8)) : fnT xA 0 oI [ab aW l, .fn mv []] [] = (
 let q1 := ae aW (ah aW l);
 let q := ai 19 [(0, ab aW q1), (1, .fn 200 []), (7, aa (↑q1.length : Int)), (8, aa 0)]; .bind (fidx (fun t => decide (40 < t.length)) q1 0) fun y0 => .ag [St.mk (ai 19 [(0, ab aW l), (1, .fn 200 []), (7, aa (↑l.length
  : Int)), (8, aa 0)]) [] [] = St.mk q [] []] (bif decide (y0 < 0) then .ag [aV (Env.P xA) 0 (blk Tryz.prog oI 0) (St.mk q [] []) (Ex.exit 0) (St.mk (ai 19 []) [] [])] (.done (aj.mk (aa (-1 : Int)) [] [])) else .ag
  [aV (Env.P xA) 0 (blk Tryz.prog oI 0) (St.mk q [] []) Ex.ret (St.mk (ai 19 [(4, aa y0)]) [] [])] (.done (aj.mk (aa y0) [] []))) : T _) := (T.force_eq _).symm.trans (by kernel_rfl)
theorem Pz (l : List (List UInt8)) : fnT eb 0 Ca [ab aW l, .fn mv []] [] = (
 .bind (fidx (fun t => decide (40 < t.length)) (ae aW (ah aW l)) 0) fun y0 => .ag [ao (Env.P eb) 247 [ab aW l, .fn 200 []] [] (aj.mk (aa y0) [] [])] (.done (aj.mk (.bool (decide (y0 >= 0))) [] [])) : T _) := (T.force_eq _).symm.trans (by kernel_rfl)
theorem ab7 (l : List (List UInt8)) : fnT eb 0 yo [ab aW l] [] = (
 .bind (decide (0 <= fidx (fun t => decide (40 < t.length)) (ae aW (ah aW l)) 0)) fun y0 => .ag [ao (Env.P eb) 199 [ab aW l, .fn 200 []] [] (aj.mk (.bool y0) [] [])] (.done (aj.mk (.bool !y0) [] [])) : T _) := (T.force_eq _).symm.trans (by kernel_rfl)
theorem Pp (c : a6) : fnT eb 0 yd [.agg (aH c)] [] = (
 let q : Hp := [some ([.str c.aG], 9)]; .bind (bz c.func (1 : Int) (8 : Int)) fun y0 => .ag [ao (Env.P eb) 45 [aa c.func, aa 1, aa 8] [] (aj.mk (.bool y0) [] [])] (bif y0 then .bind PUnit.unit fun _ => .ag [ao (Env.P eb)
  121 [ab ak c.val] [] (aj.mk (.bool true) [] [])] (.bind (decide (c.aG.length <= 40)) fun y2 => .ag [ao (Env.P eb) 122 [.sl 0 0 1 true] q (aj.mk (.bool y2) q [])] (.done (aj.mk (.bool y2) [] []))) else .done (aj.mk (.bool
  false) [] [])) : T _) := (T.force_eq _).symm.trans (by kernel_rfl)
theorem Pq (c : a6) : fnT eb 0 ml [.agg (aH c)] [] = (
 .bind PUnit.unit fun _ => .ag [ao (Env.P eb) 55 [.agg (aH c)] [] (aj.mk (.bool true) [] [])] (.done (aj.mk (.bool false) [] [])) : T _) := (T.force_eq _).symm.trans (by kernel_rfl)
def E4 (l : List a6) (i : Int) : St := ⟨ai 19 [(0, ab aH l), (1, .fn ml []), (7, .int .i64 l.length), (8, .int .i64 i)], [], []⟩
theorem Jt (l : List a6) (i : Int) : bx eb 0 kW (lp Tryz.prog jL 0) (E4 l i) = (
 let q := aH (List.getD (ae aH (ah aH l)) i.toNat (a6.mk [] (0 : Int) []));
 let q1 := (↑l.length : Int); bif decide (i < q1) then .ag [0 <= i /\ i < q1, List.take 3 (List.drop (i.toNat * 3) (ah aH l)) = q] (.bind PUnit.unit fun _ => .ag [ao (Env.P eb) 109 [.agg q] [] (aj.mk (.bool false) [] [])]
  (.done (Ex.normal, St.mk (ai 19 [(0, ab aH l), (1, .fn 109 []), (7, aa q1), (8, aa (IntKind.i64.wrap (i + 1)))]) [] []))) else .done (Ex.exit 0, St.mk (ai 19 []) [] []) : T _) := by kernel_rfl
noncomputable def UP : Nat -> St -> Option bT := fun id s => match id, s.tm.get 0 with
 | 0, .dsl _ _ cs => some ⟨(), fun _ => .one { keep := [0, 1, 7, 8] } (E4 (ae aH cs) 0) (.exit 0) ⟨ai 19 [], [], []⟩⟩
 | _, _ => none
noncomputable def AS : Env := { P := Tryz.prog, vw := cq, res := rq, ls := UP }
theorem TY (l : List a6) : fnT AS 0 jL [ab aH l, .fn ml []] [] = (
 let q1 := ae aH (ah aH l);
 let q := ai 19 [(0, ab aH q1), (1, .fn 109 []), (7, aa (↑q1.length : Int)), (8, aa 0)]; .bind PUnit.unit fun _ => .ag [St.mk (ai 19 [(0, ab aH l), (1, .fn 109 []), (7, aa (↑l.length : Int)), (8, aa 0)]) [] [] = St.mk
  q [] [], aV (Env.P AS) 0 (blk Tryz.prog jL 0) (St.mk q [] []) (Ex.exit 0) (St.mk (ai 19 []) [] [])] (.done (aj.mk (aa (-1 : Int)) [] [])) : T _) := (T.force_eq _).symm.trans (by kernel_rfl)
theorem Py (l : List a6) : fnT eb 0 sK [ab aH l, .fn ml []] [] = (
 .bind PUnit.unit fun _ => .ag [ao (Env.P eb) 187 [ab aH l, .fn 109 []] [] (aj.mk (aa (-1 : Int)) [] [])] (.done (aj.mk (.bool false) [] [])) : T _) := (T.force_eq _).symm.trans (by kernel_rfl)
theorem Ps (l : List a6) : fnT eb 0 ye [ab aH l] [] = (
 let q := aj.mk (.bool false) [] []; bif decide ((↑l.length : Int) <= 8) then .bind PUnit.unit fun _ => .ag [ao (Env.P eb) 108 [ab aH l, .fn 109 []] [] q] (.done (aj.mk (.bool true) [] [])) else .done q : T _) := by kernel_rfl
theorem ab3 (t : List UInt8) : ao Tryz.prog mv [.str t] [] ⟨.bool (decide (40 < t.length)), [], []⟩ := by
 refine bh (E := eb) follows named (ab2 t) (by simp) ?_
 simp only [T.WP]
 refine ⟨?_, rfl, by simp⟩
 exact congrArg V.bool (decide_eq_decide.2 af)
theorem T5 (l : List (List UInt8)) (h : l.length <= 1048576) :
  (fidx (fun t : List UInt8 => decide (40 < t.length)) l 0 < 0 -> a8 Tryz.prog 0 (lp Tryz.prog oI 0) (wM l 0) (.exit 0) ⟨ai 19 [], [], []⟩) /\
  (0 <= fidx (fun t : List UInt8 => decide (40 < t.length)) l 0 -> a8 Tryz.prog 0 (lp Tryz.prog oI 0) (wM l 0) .ret ⟨ai 19 [(4, .int .i64 (fidx (fun t : List UInt8 => decide (40 < t.length)) l 0))], [], []⟩) := by
 refine lA (E := eb) (m := 0) (nf := kW) (st := fun i => wM l (i : Nat)) (sr := fun j => ⟨ai 19 [(4, .int .i64 j)], [], []⟩) (fun t : List UInt8 => decide (40 < t.length)) l [] follows named (by simp) (by simp) (fun i => T0 l (i : Nat)) (fun i hi => ?_) ?_ l.length 0 (by simp)
 ·have aL := dM.at l [] i 1 hi rfl
  simp only [az, T.WP, All, aB, aC, aA, Int.toNat_natCast, dM.ae, bE (show i < 9223372036854775807 by omega)]
  refine ⟨fun _ => ⟨⟨aK, aL⟩, ?_⟩, fun h => by omega⟩
  rintro y e
  have e : y = decide (40 < (l.getD i []).length) := e
  refine ⟨by rw [e]; exact ab3 _, fun h => ?_, fun h => ?_⟩
  ·rw [<- e, h]; rfl
  ·rw [<- e, h]; rfl
 ·simp only [az, T.WP, All, aB, aC, aA]
  exact ⟨fun h => by omega, fun _ => trivial⟩
theorem T6 (l : List (List UInt8)) (h : l.length <= 1048576) : ao Tryz.prog oI [ab aW l, .fn mv []] [] ⟨.int .i64 (fidx (fun t : List UInt8 => decide (40 < t.length)) l 0), [], []⟩ := by
 have hl := T5 l h
 refine bh (E := xA) follows named (T4 l) (by simp) ?_
 simp only [az, T.WP, All, aB, aC, aA, dM.ae]
 rintro y rfl
 refine ⟨bn, fun h0 => ⟨.bg (hl.1 h0), ?_⟩, fun h0 => ⟨.bg (hl.2 af), aQ⟩⟩
 have e : fidx (fun t : List UInt8 => decide (40 < t.length)) l 0 = -1 := by
  rcases jN (fun t : List UInt8 => decide (40 < t.length)) l 0 with h2 | h2 <;> omega
 rw [e]; exact aQ
theorem PA (l : List (List UInt8)) (h : l.length <= 1048576) : ao Tryz.prog Ca [ab aW l, .fn mv []] [] ⟨.bool (decide (0 <= fidx (fun t : List UInt8 => decide (40 < t.length)) l 0)), [], []⟩ := by
 refine bh (E := eb) follows named (Pz l) (by simp) ?_
 simp only [T.WP, All, aA, dM.ae]
 rintro y rfl
 exact ⟨T6 l h, aQ⟩
theorem ab8 (t : List UInt8) : ao Tryz.prog yo [ab aW [t]] [] ⟨.bool (decide (t.length <= 40)), [], []⟩ := by
 refine bh (E := eb) follows named (ab7 [t]) (by simp) ?_
 simp only [T.WP, All, aA, dM.ae]
 rintro y rfl
 refine ⟨PA [t] (by simp), ?_, rfl, by simp⟩
 refine congrArg V.bool ?_
 rw [fidx, fidx]
 by_cases h : 40 < t.length
 ·rw [decide_eq_true h, cond_true]; simp; omega
 ·rw [decide_eq_false h, cond_false]; simp; omega
theorem ab6 (t : List UInt8) : ao Tryz.prog yo [.sl 0 0 1 true] [some ([.str t], pT)] ⟨.bool (decide (t.length <= 40)), [some ([.str t], pT)], []⟩ :=
 ao.DL 3 (cD := [ab aW [t]]) rfl (ab8 t) rfl
structure nY (c : a6) : Prop where
 f : 1 <= c.func /\ c.func <= 8
 d : ∃ k, b7 k c.val
 l : c.val.length <= 8
 n : c.aG.length <= 40
theorem BI {c : a6} (h : nY c) : ao Tryz.prog yd [.agg (aH c)] [] ⟨.bool true, [], []⟩ := by
 obtain ⟨k, hd⟩ := h.d
 refine bh (E := eb) follows named (Pp c) (by simp) ?_
 simp only [az, T.WP, All, aA]
 rintro y rfl
 have hy : bz c.func 1 8 = true := by unfold bz; simp [h.f]
 refine ⟨nW _ _ _, fun _ => ?_, fun hn => ?_⟩
 ·rintro _ -
  refine ⟨He hd h.l, ?_⟩
  rintro y2 e2
  refine ⟨by rw [e2]; exact ab6 c.aG, ?_⟩
  rw [e2, decide_eq_true h.n]
  exact aQ
 ·rw [hy] at hn; cases hn
theorem Pr {c : a6} (h : nY c) : ao Tryz.prog ml [.agg (aH c)] [] ⟨.bool false, [], []⟩ := by
 refine bh (E := eb) follows named (Pq c) (by simp) ?_
 simp only [T.WP, All, aA]
 rintro _ -
 exact ⟨BI h, aQ⟩
theorem Ju (l : List a6) (hc : ∀ c ∈ l, nY c) (hl : l.length <= 1048576) : ∀ (k i : Nat), i + k = l.length -> a8 Tryz.prog 0 (lp Tryz.prog jL 0) (E4 l i) (.exit 0) ⟨ai 19 [], [], []⟩
 | 0, i, hi => by
  have hi : i = l.length := hi
  subst hi
  refine bl (E := eb) follows named (Jt l (l.length : Nat)) ?_
  simp only [az, T.WP, All, aB, aC, aA]
  exact ⟨fun h => af, fun _ => ⟨rfl, rfl⟩⟩
 | k + 1, i, hi => by
  have bH : i < l.length := af
  have aL := cg.at l ⟨[], 0, []⟩ i 3 bH rfl
  have w1 : IntKind.i64.wrap ((i : Int) + 1) = ((i + 1 : Nat) : Int) := bE af
  have ih := Ju l hc hl k (i + 1) af
  refine bl (E := eb) follows named (Jt l (i : Nat)) ?_
  simp only [az, T.WP, All, aB, aC, aA, w1, cg.ae, Int.toNat_natCast]
  refine ⟨fun _ => ⟨⟨aK, aL⟩, ?_⟩, fun h => af⟩
  rintro _ -
  exact ⟨Pr (hc _ (bP _ bH)), ih⟩
theorem G9 {l : List a6} (hc : ∀ c ∈ l, nY c) (hl : l.length <= 8) : ao Tryz.prog ye [ab aH l] [] ⟨.bool true, [], []⟩ := by
 have hq : ao Tryz.prog jL [ab aH l, .fn ml []] [] ⟨.int .i64 (-1), [], []⟩ := by
  have h := Ju l hc af l.length 0 af
  refine bh (E := AS) follows named (TY l) (by simp) ?_
  simp only [T.WP, All, aA, cg.ae]
  rintro _ -
  exact ⟨⟨bn, .bg h⟩, aQ⟩
 have RC : ao Tryz.prog sK [ab aH l, .fn ml []] [] ⟨.bool false, [], []⟩ := by
  refine bh (E := eb) follows named (Py l) (by simp) ?_
  simp only [T.WP, All, aA]
  rintro _ -
  exact ⟨hq, aQ⟩
 refine bh (E := eb) follows named (Ps l) (by simp) ?_
 simp only [az, T.WP, All, aB, aC, aA]
 refine ⟨fun _ => ?_, fun h => af⟩
 rintro _ -
 exact ⟨RC, aQ⟩
abbrev oF : Nat := 126
abbrev oG : Nat := 219
abbrev B9 : Nat := 149
abbrev fT : Nat := 206
abbrev sI : Nat := 201
abbrev nb : Nat := 135
abbrev yh : Nat := 127
abbrev jk : Nat := 202
abbrev B8 : Nat := 128
abbrev yk : Nat := 61
abbrev Nb : Nat := 143
abbrev af6 : Nat := 32
def Ob (a : At) : Option bM := some (ak a, Nb)
def b6 (d : aU) : Option bM := some ([ab ak d], af6)
noncomputable def wg : cP := fun f vs hp => match vs, hp with
 | [.dsl _ _ cs, .agg [.int _ k, .int _ n, .str t]], [] => bif Nat.beq f oG then some ⟨fidx (fun x => dp x ⟨k, n, t⟩) (ae ak cs) 0, fun y => ⟨.int .i64 y, [], []⟩⟩ else bif Nat.beq f B9 then some ⟨cd (ae ak cs) ⟨k, n, t⟩, fun y => ⟨.bool y, [], []⟩⟩ else rq f vs hp
 | [.agg [.int _ k, .int _ n, .str t], .ptr 0 0], [some ([.dsl _ _ cs], _)] => bif Nat.beq f jk then some ⟨cd (ae ak cs) ⟨k, n, t⟩, fun y => ⟨.bool y, [b6 (ae ak cs)], []⟩⟩ else rq f vs hp
 | [.dsl _ _ cs, .dsl _ _ ds], [] => bif Nat.beq f oF then some ⟨decide (ae ak cs = ae ak ds), fun y => ⟨.bool y, [], []⟩⟩ else bif Nat.beq f yh then some ⟨dr (ae ak cs) (ae ak ds), fun y => ⟨ab ak y, [], []⟩⟩ else rq f vs hp
 | _, _ => rq f vs hp
noncomputable def kb : Env := { P := Tryz.prog, vw := cq, res := wg }
def wG (d : aU) (a : At) (i : Int) : St := ⟨ai 19 [(0, ab ak d), (3, .ptr 0 0), (7, .int .i64 d.length), (8, .int .i64 i)], [Ob a], []⟩
def Ka : Ex -> Kp := fun ex => match ex with
 | .normal => { keep := [0, 3, 7, 8] }
 | .ret => { keep := [4] }
 | _ => { keep := [] }
theorem Ty (d : aU) (a : At) (i : Int) : bx kb 0 Ka (lp Tryz.prog oG 0) (wG d a i) = (
 let q := List.getD (ae ak (ah ak d)) i.toNat (At.mk (0 : Int) (0 : Int) []);
 let q1 := (↑d.length : Int); bif decide (i < q1) then .ag [0 <= i /\ i < q1, List.take 3 (List.drop (i.toNat * 3) (ah ak d)) = ak q] (bif a.kind == q.kind && (a.n == q.n && (a.t == q.t && true)) then .done (Ex.ret, St.mk (ai 19
  [(4, aa i)]) [] []) else .done (Ex.normal, St.mk (ai 19 [(0, ab ak d), (3, .ptr 0 0), (7, aa q1), (8, aa (IntKind.i64.wrap (i + 1)))]) [some (ak a, 143)] [])) else .done (Ex.exit 0, St.mk (ai 19 []) [] []) : T _) := by kernel_rfl
theorem Pu (d : aU) (a : At) : fnT kb 0 B9 [ab ak d, .agg (ak a)] [] = (
 .bind (fidx (fun x => dp x (At.mk a.kind a.n a.t)) (ae ak (ah ak d)) 0) fun y0 => .ag [ao (Env.P kb) 219 [ab ak d, .agg (ak a)] [] (aj.mk (aa y0) [] [])] (.done (aj.mk (.bool (decide (y0 >= 0))) [] [])) : T _) := (T.force_eq _).symm.trans (by kernel_rfl)
def wA (d e : aU) (i : Int) : St := ⟨ai 26 [(0, ab ak d), (1, ab ak e), (12, .int .i64 d.length), (13, .int .i64 i)], [], []⟩
def J7 : Ex -> Kp := fun ex => match ex with
 | .ret => { keep := [4] }
 | .normal => { keep := [0, 1, 12, 13] }
 | _ => { keep := [] }
theorem Qe (d e : aU) (i : Int) : bx kb 0 J7 (lp Tryz.prog oF 0) (wA d e i) = (
 let q3 := At.mk (0 : Int) (0 : Int) [];
 let q := List.getD (ae ak (ah ak d)) i.toNat q3;
 let q1 := List.getD (ae ak (ah ak e)) i.toNat q3;
 let q2 := (↑d.length : Int); bif decide (i < q2) then .ag [0 <= i /\ i < q2, List.take 3 (List.drop (i.toNat * 3) (ah ak d)) = ak q] (.ag [0 <= i /\ i < (↑e.length : Int), List.take 3 (List.drop (i.toNat * 3) (ah ak e)) =
  ak q1] (bif !(q.kind == q1.kind && (q.n == q1.n && (q.t == q1.t && true))) then .done (Ex.ret, St.mk (ai 26 [(4, .bool false)]) [] []) else .done (Ex.normal, St.mk (ai 26 [(0, ab ak d), (1, ab ak e), (12, aa q2), (13,
  aa (IntKind.i64.wrap (i + 1)))]) [] []))) else .done (Ex.exit 0, St.mk (ai 26 []) [] []) : T _) := by kernel_rfl
theorem Uq (a : At) (d : aU) : fnT kb 0 jk [.agg (ak a), .ptr 0 0] [b6 d] = (
 .bind (cd (ae ak (ah ak d)) (At.mk a.kind a.n a.t)) fun y0 => .ag [ao (Env.P kb) 149 [ab ak d, .agg (ak a)] [] (aj.mk (.bool y0) [] [])] (.done (aj.mk (.bool y0) [some ([ab ak d], 32)] [])) : T _) := (T.force_eq _).symm.trans (by kernel_rfl)
theorem Pm (d : aU) (c : a6) : fnT kb 0 B8 [ab ak d, .agg (aH c)] [] = (
 let q2 := At.mk (0 : Int) (0 : Int) [];
 let q := List.getD (ae ak (ah ak c.val)) 0 q2;
 let q1 := List.getD (ae ak (ah ak d)) 0 q2; bif (↑d.length : Int) != 1 then .done (aj.mk (.bool false) [] []) else .ag [(0 : Int) <= 0 /\ (0 : Int) < (↑d.length : Int), List.take 3 (List.drop 0 (ah ak d)) = ak q1]
  (.ag [(0 : Int) <= 0 /\ (0 : Int) < (↑c.val.length : Int), List.take 3 (List.drop 0 (ah ak c.val)) = ak q] (.bind (jJ (At.mk q1.kind q1.n q1.t) (At.mk q.kind q.n q.t)) fun y0 => .ag [ao (Env.P kb) 198 [.agg (ak q1),
  .agg (ak q)] [] (aj.mk (aa y0) [] [])] (bif c.func == 3 then .done (aj.mk (.bool (decide (y0 < 0))) [] []) else bif c.func == 4 then .done (aj.mk (.bool (decide (y0 <= 0))) [] []) else bif c.func == 5 then .done (aj.mk (.bool
  (decide (y0 > 0))) [] []) else .done (aj.mk (.bool (decide (y0 >= 0))) [] [])))) : T _) := by kernel_rfl
theorem HC (a x : At) : (a.kind == x.kind && (a.n == x.n && (a.t == x.t && true))) = dp x a := by
 rw [Bool.eq_iff_iff, qb]
 obtain ⟨k, n, t⟩ := a
 obtain ⟨k', n', t'⟩ := x
 simp only [Bool.and_eq_true, beq_iff_eq, and_true, At.mk.injEq]
 constructor
 ·rintro ⟨h1, h2, h3⟩; exact ⟨h1.symm, h2.symm, h3.symm⟩
 ·rintro ⟨h1, h2, h3⟩; exact ⟨h1.symm, h2.symm, h3.symm⟩
noncomputable def UK : Nat -> St -> Option bT := fun id s => match id, s.tm.get 0, s.hp with
 | 0, .dsl _ _ cs, some ([.int _ k, .int _ n, .str t], _) :: _ => some ⟨fidx (fun x => dp x ⟨k, n, t⟩) (ae ak cs) 0, fun y => .two { keep := [0, 3, 7, 8] } (wG (ae ak cs) ⟨k, n, t⟩ 0) (decide (y < 0)) (.exit 0) ⟨ai 19 [], [], []⟩ .ret ⟨ai 19 [(4, .int .i64 y)], [], []⟩⟩
 | _, _, _ => none
noncomputable def xx : Env := { P := Tryz.prog, vw := cq, res := wg, ls := UK }
theorem Tz (d : aU) (a : At) : fnT xx 0 oG [ab ak d, .agg (ak a)] [] = (
 let q2 := ae ak (ah ak d);
 let q := ai 19 [(0, ab ak q2), (3, .ptr 0 0), (7, aa (↑q2.length : Int)), (8, aa 0)];
 let q3 := At.mk a.kind a.n a.t;
 let q1 : Hp := [some (ak q3, 143)]; .bind (fidx (fun x => dp x q3) q2 0) fun y0 => .ag [St.mk (ai 19 [(0, ab ak d), (3, .ptr 0 0), (7, aa (↑d.length : Int)), (8, aa 0)]) [some (ak a, 143)] [] = St.mk q q1 []] (bif
  decide (y0 < 0) then .ag [aV (Env.P xx) 0 (blk Tryz.prog oG 0) (St.mk q q1 []) (Ex.exit 0) (St.mk (ai 19 []) [] [])] (.done (aj.mk (aa (-1 : Int)) [] [])) else .ag [aV (Env.P xx) 0 (blk Tryz.prog oG 0) (St.mk q
  q1 []) Ex.ret (St.mk (ai 19 [(4, aa y0)]) [] [])] (.done (aj.mk (aa y0) [] []))) : T _) := (T.force_eq _).symm.trans (by kernel_rfl)
theorem TA (d : aU) (a : At) (h : d.length <= 1048576) :
  (fidx (fun x => dp x a) d 0 < 0 -> a8 Tryz.prog 0 (lp Tryz.prog oG 0) (wG d a 0) (.exit 0) ⟨ai 19 [], [], []⟩) /\
  (0 <= fidx (fun x => dp x a) d 0 -> a8 Tryz.prog 0 (lp Tryz.prog oG 0) (wG d a 0) .ret ⟨ai 19 [(4, .int .i64 (fidx (fun x => dp x a) d 0))], [], []⟩) := by
 refine lA (E := kb) (m := 0) (nf := Ka) (st := fun i => wG d a (i : Nat)) (sr := fun j => ⟨ai 19 [(4, .int .i64 j)], [], []⟩) (fun x => dp x a) d ⟨0, 0, []⟩ follows named (by simp) (by simp) (fun i => Ty d a (i : Nat)) (fun i hi => ?_) ?_ d.length 0 (by simp)
 ·have aL := bq.at d ⟨0, 0, []⟩ i 3 hi rfl
  simp only [HC, bq.ae, Int.toNat_natCast]
  simp only [az, T.WP, All, aB, aC, aA, bE (show i < 9223372036854775807 by omega)]
  refine ⟨fun _ => ⟨⟨aK, aL⟩, fun h => ?_, fun h => ?_⟩, fun h => by omega⟩
  ·rw [h]; rfl
  ·rw [h]; rfl
 ·simp only [az, T.WP, All, aB, aC, aA]
  exact ⟨fun h => by omega, fun _ => trivial⟩
theorem TB (d : aU) (a : At) (h : d.length <= 1048576) : ao Tryz.prog oG [ab ak d, .agg (ak a)] [] ⟨.int .i64 (fidx (fun x => dp x a) d 0), [], []⟩ := by
 have hl := TA d a h
 refine bh (E := xx) follows named (Tz d a) (by simp) ?_
 simp only [az, T.WP, All, aB, aC, aA, bq.ae]
 rintro y e
 have e : y = fidx (fun x => dp x a) d 0 := e
 rw [<- e] at hl ⊢
 refine ⟨bn, fun h0 => ⟨.bg (hl.1 h0), ?_⟩, fun h0 => ⟨.bg (hl.2 af), aQ⟩⟩
 have e1 : y = -1 := by
  rcases jN (fun x => dp x a) d 0 with h2 | h2 <;> omega
 rw [e1]; exact aQ
theorem Pv (d : aU) (a : At) (h : d.length <= 1048576) : ao Tryz.prog B9 [ab ak d, .agg (ak a)] [] ⟨.bool (cd d a), [], []⟩ := by
 refine bh (E := kb) follows named (Pu d a) (by simp) ?_
 simp only [T.WP, All, aA, bq.ae]
 rintro y rfl
 refine ⟨TB d a h, ?_, rfl, by simp⟩
 refine congrArg V.bool ?_
 rw [Bool.eq_iff_iff, decide_eq_true_eq]
 unfold cd
 rw [List.any_eq_true]
 exact s8 (p := fun x => dp x a)
theorem JF (a : At) (d : aU) (h : d.length <= 1048576) : ao Tryz.prog jk [.agg (ak a), .ptr 0 0] [b6 d] ⟨.bool (cd d a), [b6 d], []⟩ := by
 refine bh (E := kb) follows named (Uq a d) (by simp) ?_
 simp only [T.WP, All, aA, bq.ae]
 rintro y rfl
 exact ⟨Pv d a h, aQ⟩
noncomputable def UF : Nat -> St -> Option bT := fun id s => match id, s.tm.get 0, s.tm.get 1 with
 | 0, .dsl _ _ cs, .dsl _ _ ds => some ⟨allN (fun i => dp ((ae ak ds).getD i ⟨0, 0, []⟩) ((ae ak cs).getD i ⟨0, 0, []⟩)) (ae ak cs).length 0, fun y => .two { keep := [0, 1, 12, 13] } (wA (ae ak cs) (ae ak ds) 0) y (.exit 0) ⟨ai 26 [], [], []⟩ .ret ⟨ai 26 [(4, .bool false)], [], []⟩⟩
 | _, _, _ => none
noncomputable def xu : Env := { P := Tryz.prog, vw := cq, res := wg, ls := UF }
theorem Qf (d e : aU) : fnT xu 0 oF [ab ak d, ab ak e] [] = (
 let q1 := ae ak (ah ak d);
 let q4 := ae ak (ah ak e);
 let q := ai 26 [(0, ab ak q1), (1, ab ak q4), (12, aa (↑q1.length : Int)), (13, aa 0)];
 let q2 := At.mk (0 : Int) (0 : Int) [];
 let q3 := aj.mk (.bool false) [] []; bif (↑d.length : Int) != (↑e.length : Int) then .done q3 else .bind (allN (fun i => dp (List.getD q4 i q2) (List.getD q1 i q2)) q1.length 0) fun y0 => .ag [St.mk (ai 26 [(0, ab ak d), (1,
  ab ak e), (12, aa (↑d.length : Int)), (13, aa 0)]) [] [] = St.mk q [] []] (bif y0 then .ag [aV (Env.P xu) 0 (blk Tryz.prog oF 0) (St.mk q [] []) (Ex.exit 0) (St.mk (ai 26 []) [] [])] (.done (aj.mk (.bool true) [] []))
  else .ag [aV (Env.P xu) 0 (blk Tryz.prog oF 0) (St.mk q [] []) Ex.ret (St.mk (ai 26 [(4, .bool false)]) [] [])] (.done q3)) : T _) := by kernel_rfl
theorem Qg (d e : aU) (hl : d.length = e.length) (h : d.length <= 1048576) :
  (allN (fun i => dp (e.getD i ⟨0, 0, []⟩) (d.getD i ⟨0, 0, []⟩)) d.length 0 = true -> a8 Tryz.prog 0 (lp Tryz.prog oF 0) (wA d e 0) (.exit 0) ⟨ai 26 [], [], []⟩) /\
  (allN (fun i => dp (e.getD i ⟨0, 0, []⟩) (d.getD i ⟨0, 0, []⟩)) d.length 0 = false -> a8 Tryz.prog 0 (lp Tryz.prog oF 0) (wA d e 0) .ret ⟨ai 26 [(4, .bool false)], [], []⟩) := by
 refine ij (E := kb) (m := 0) (nf := J7) (st := fun i => wA d e (i : Nat)) (n := d.length) _ follows named (by simp) (by simp) (fun i => Qe d e (i : Nat)) (fun i hi => ?_) ?_ d.length 0 (by simp)
 ·have aL := bq.at d ⟨0, 0, []⟩ i 3 hi rfl
  have cA := bq.at e ⟨0, 0, []⟩ i 3 (by omega) rfl
  simp only [HC, bq.ae, Int.toNat_natCast]
  simp only [az, T.WP, All, aB, aC, aA, bE (show i < 9223372036854775807 by omega)]
  refine ⟨fun _ => ⟨⟨aK, aL⟩, ⟨aK, cA⟩, fun h => ?_, fun h => ?_⟩, fun h => by omega⟩
  ·rw [show dp (e.getD i ⟨0, 0, []⟩) (d.getD i ⟨0, 0, []⟩) = false by simpa using h]; rfl
  ·rw [show dp (e.getD i ⟨0, 0, []⟩) (d.getD i ⟨0, 0, []⟩) = true by simpa using h]; rfl
 ·simp only [az, T.WP, All, aB, aC, aA]
  exact ⟨fun h => by omega, fun _ => trivial⟩
theorem N6 {d e : aU} (hl : d.length = e.length) : allN (fun i => dp (e.getD i ⟨0, 0, []⟩) (d.getD i ⟨0, 0, []⟩)) d.length 0 = decide (d = e) := by
 rw [Bool.eq_iff_iff, mf, decide_eq_true_eq]
 constructor
 ·intro h
  refine List.ext_getElem hl fun i h1 h2 => ?_
  have := qb.1 (h i af af)
  rw [List.getD_eq_getElem?_getD, List.getD_eq_getElem?_getD, List.getElem?_eq_getElem h1, List.getElem?_eq_getElem h2] at this
  exact this.symm
 ·rintro rfl i h1 h2
  exact qb.2 rfl
theorem HB (d e : aU) (h : d.length <= 1048576) : ao Tryz.prog oF [ab ak d, ab ak e] [] ⟨.bool (decide (d = e)), [], []⟩ := by
 refine bh (E := xu) follows named (Qf d e) (by simp) ?_
 simp only [az, T.WP, All, aA, bq.ae]
 refine ⟨fun bp => ?_, fun heq => ?_⟩
 ·rw [decide_eq_false (fun e' => by subst e'; simp at bp)]; exact aQ
 ·have hl : d.length = e.length := by
   have : (d.length : Int) = (e.length : Int) := by simpa using heq
   omega
  have gY := Qg d e hl h
  rintro y e'
  rw [<- e'] at gY
  rw [N6 hl] at e'
  refine ⟨bn, fun h0 => ⟨.bg (gY.1 h0), ?_⟩, fun h0 => ⟨.bg (gY.2 h0), ?_⟩⟩
  ·rw [<- e', h0]; exact aQ
  ·rw [<- e', h0]; exact aQ
def sB (d : aU) (c : a6) : Bool :=
 bif (d.length : Int) != 1 then false
 else bif c.func == 3 then decide (jJ (d.getD 0 ⟨0, 0, []⟩) (c.val.getD 0 ⟨0, 0, []⟩) < 0)
 else bif c.func == 4 then decide (jJ (d.getD 0 ⟨0, 0, []⟩) (c.val.getD 0 ⟨0, 0, []⟩) <= 0)
 else bif c.func == 5 then decide (jJ (d.getD 0 ⟨0, 0, []⟩) (c.val.getD 0 ⟨0, 0, []⟩) > 0)
 else decide (jJ (d.getD 0 ⟨0, 0, []⟩) (c.val.getD 0 ⟨0, 0, []⟩) >= 0)
theorem Pn (d : aU) (c : a6) (hc : c.val ≠ []) : ao Tryz.prog B8 [ab ak d, .agg (aH c)] [] ⟨.bool (sB d c), [], []⟩ := by
 have hv : 0 < c.val.length := List.length_pos_iff.2 hc
 have yF := bq.at c.val ⟨0, 0, []⟩ 0 3 hv rfl
 rw [Nat.zero_mul] at yF
 refine bh (E := kb) follows named (Pm d c) (by simp) ?_
 unfold sB
 simp only [az, T.WP, All, aA, aD, aE, aF, bq.ae]
 refine ⟨fun h1 => ?_, fun h1 => ?_⟩
 ·rw [show ((d.length : Int) != 1) = true by simpa using h1]; exact aQ
 ·have hd : d.length = 1 := by
   have : (d.length : Int) = 1 := by simpa using h1
   omega
  have Io := bq.at d ⟨0, 0, []⟩ 0 3 af rfl
  rw [Nat.zero_mul] at Io
  rw [show ((d.length : Int) != 1) = false by simpa using h1, cond_false]
  refine ⟨⟨aK, Io⟩, ⟨aK, yF⟩, ?_⟩
  rintro y e
  have e : y = jJ (d.getD 0 ⟨0, 0, []⟩) (c.val.getD 0 ⟨0, 0, []⟩) := e
  rw [<- e]
  refine ⟨by rw [e]; exact GR _ _, fun h3 => ?_, fun h3 => ⟨fun h4 => ?_, fun h4 => ⟨fun h5 => ?_, fun h5 => ?_⟩⟩⟩
  ·rw [show (c.func == 3) = true by simpa using h3]; exact aQ
  ·rw [show (c.func == 3) = false by simpa using h3, show (c.func == 4) = true by simpa using h4]; exact aQ
  ·rw [show (c.func == 3) = false by simpa using h3, show (c.func == 4) = false by simpa using h4, show (c.func == 5) = true by simpa using h5]; exact aQ
  ·rw [show (c.func == 3) = false by simpa using h3, show (c.func == 4) = false by simpa using h4, show (c.func == 5) = false by simpa using h5]; exact aQ
abbrev Cd : Nat := 188
abbrev ly : Nat := 240
abbrev yf : Nat := 211
abbrev qm : Nat := 111
abbrev sY : Nat := 79
abbrev nk : Nat := 44
abbrev HI : Nat := 83
abbrev yq : Nat := 54
abbrev ym : Nat := 60
def cW (c : bt) : Option bM := some (ba c, xc)
noncomputable def mQ : cP := fun f vs hp => match vs, hp with
 | [.agg [.int _ _, .int _ n, .str _], .ptr 0 0], [some ([.str a, .int _ b, .int _ c, .int _ d, .int _ e, .int _ g, .str h, .bool q], _)] => bif Nat.beq f ly then some ⟨!bz n e g, fun y => ⟨.bool y, [cW ⟨a, b, c, d, e, g, h, q⟩], []⟩⟩ else none
 | [.dsl _ _ cs, .fn w [.ptr 0 0]], [some ([.str a, .int _ b, .int _ c, .int _ d, .int _ e, .int _ g, .str h, .bool q], _)] =>
  bif Nat.beq f fT && Nat.beq w ly then some ⟨fidx (fun x : At => !bz x.n e g) (ae ak cs) 0, fun y => ⟨.int .i64 y, [cW ⟨a, b, c, d, e, g, h, q⟩], []⟩⟩ else
  bif Nat.beq f yf && Nat.beq w ly then some ⟨(ae ak cs).any (fun x : At => !bz x.n e g), fun y => ⟨.bool y, [cW ⟨a, b, c, d, e, g, h, q⟩], []⟩⟩ else none
 | [.agg [.str a, .int _ b, .int _ c, .int _ d, .int _ e, .int _ g, .str h, .bool q], .dsl _ _ cs], [] => bif Nat.beq f Cd then some ⟨cX ⟨a, b, c, d, e, g, h, q⟩ (ae ak cs), fun y => ⟨.int .i64 y, [], []⟩⟩ else none
 | [.agg [.str _, .dsl _ _ _, .dsl _ _ _, .bool _], .agg [.int _ _, .dsl _ _ _]], [] => bif Nat.beq f qm then some ⟨(), fun _ => ⟨.bool true, [], []⟩⟩ else bif Nat.beq f ym then some ⟨(), fun _ => ⟨.bool true, [], []⟩⟩ else none
 | [.agg [.str _, .dsl _ _ _, .dsl _ _ _, .bool _]], [] => bif Nat.beq f yq then some ⟨(), fun _ => ⟨.bool true, [], []⟩⟩ else none
 | [.agg [.dsl _ _ _]], [] => bif Nat.beq f HI then some ⟨(), fun _ => ⟨.bool true, [], []⟩⟩ else none
 | [.dsl _ _ _], [] => bif Nat.beq f sY then some ⟨(), fun _ => ⟨.bool true, [], []⟩⟩ else wg f vs hp
 | _, _ => wg f vs hp
noncomputable def cH : Env := { P := Tryz.prog, vw := cq, res := mQ }
theorem Qr (a : At) (c : bt) : fnT cH 0 ly [.agg (ak a), .ptr 0 0] [cW c] = (
 .bind (bz a.n c.low c.high) fun y0 => .ag [ao (Env.P cH) 45 [aa a.n, aa c.low, aa c.high] [] (aj.mk (.bool y0) [] [])] (.done (aj.mk (.bool !y0) [cW c] [])) : T _) := (T.force_eq _).symm.trans (by kernel_rfl)
def wJ (d : aU) (c : bt) (i : Int) : St := ⟨ai 19 [(0, ab ak d), (1, .fn ly [.ptr 0 0]), (7, .int .i64 d.length), (8, .int .i64 i)], [cW c], []⟩
theorem TI (d : aU) (c : bt) (i : Int) : bx cH 1 kW (lp Tryz.prog fT 0) (wJ d c i) = (
 let q := List.getD (ae ak (ah ak d)) i.toNat (At.mk (0 : Int) (0 : Int) []);
 let q1 := (↑d.length : Int); bif decide (i < q1) then .ag [0 <= i /\ i < q1, List.take 3 (List.drop (i.toNat * 3) (ah ak d)) = ak q] (.bind (!bz q.n c.low c.high) fun y0 => .ag [ao (Env.P cH) 240 [.agg (ak q), .ptr 0 0]
  [cW c] (aj.mk (.bool y0) [cW (bt.mk c.name c.kind c.min c.max c.low c.high c.ref c.eR)] [])] (bif y0 then .done (Ex.ret, St.mk (ai 19 [(4, aa i)]) [cW c] []) else .done (Ex.normal, St.mk (ai 19 [(0, ab ak d), (1, .fn
  240 [.ptr 0 0]), (7, aa q1), (8, aa (IntKind.i64.wrap (i + 1)))]) [cW c] []))) else .done (Ex.exit 0, St.mk (ai 19 []) [cW c] []) : T _) := by kernel_rfl
noncomputable def UN : Nat -> St -> Option bT := fun id s => match id, s.tm.get 0, s.hp with
 | 0, .dsl _ _ cs, some ([.str a, .int _ b, .int _ c, .int _ d, .int _ e, .int _ g, .str h, .bool q], _) :: _ => some ⟨fidx (fun x : At => !bz x.n e g) (ae ak cs) 0, fun y => .two { keep := [0, 1, 7, 8] } (wJ (ae ak cs) ⟨a, b, c, d, e, g, h, q⟩ 0) (decide (y < 0)) (.exit 0) ⟨ai 19 [], [cW ⟨a, b, c, d, e, g, h, q⟩], []⟩ .ret ⟨ai 19 [(4, .int .i64 y)], [cW ⟨a, b, c, d, e, g, h, q⟩], []⟩⟩
 | _, _, _ => none
noncomputable def xz : Env := { P := Tryz.prog, vw := cq, res := mQ, ls := UN }
theorem TJ (d : aU) (c : bt) : fnT xz 0 fT [ab ak d, .fn ly [.ptr 0 0]] [cW c] = (
 let q := bt.mk c.name c.kind c.min c.max c.low c.high c.ref c.eR;
 let q2 := ae ak (ah ak d);
 let q1 := ai 19 [(0, ab ak q2), (1, .fn 240 [.ptr 0 0]), (7, aa (↑q2.length : Int)), (8, aa 0)]; .bind (fidx (fun x => !bz x.n c.low c.high) q2 0) fun y0 => .ag [St.mk (ai 19 [(0, ab ak d), (1, .fn 240 [.ptr 0 0]), (7,
  aa (↑d.length : Int)), (8, aa 0)]) [cW c] [] = St.mk q1 [cW q] []] (bif decide (y0 < 0) then .ag [aV (Env.P xz) 1 (blk Tryz.prog fT 0) (St.mk q1 [cW q] []) (Ex.exit 0) (St.mk (ai 19 []) [cW q] [])] (.done (aj.mk
  (aa (-1 : Int)) [cW q] [])) else .ag [aV (Env.P xz) 1 (blk Tryz.prog fT 0) (St.mk q1 [cW q] []) Ex.ret (St.mk (ai 19 [(4, aa y0)]) [cW q] [])] (.done (aj.mk (aa y0) [cW q] []))) : T _) := (T.force_eq _).symm.trans (by kernel_rfl)
theorem Pw (d : aU) (c : bt) : fnT cH 0 yf [ab ak d, .fn ly [.ptr 0 0]] [cW c] = (
 .bind (fidx (fun x => !bz x.n c.low c.high) (ae ak (ah ak d)) 0) fun y0 => .ag [ao (Env.P cH) 206 [ab ak d, .fn 240 [.ptr 0 0]] [cW c] (aj.mk (aa y0) [cW (bt.mk c.name c.kind c.min c.max c.low c.high c.ref
  c.eR)] [])] (.done (aj.mk (.bool (decide (y0 >= 0))) [cW c] [])) : T _) := (T.force_eq _).symm.trans (by kernel_rfl)
theorem Qv (c : bt) (d : aU) : fnT cH 0 Cd [.agg (ba c), ab ak d] [] = (
 let q := bt.mk c.name c.kind c.min c.max c.low c.high c.ref c.eR;
 let q9 := ae ak (ah ak d);
 let q1 := List.any q9 fun x => !bz x.n c.low c.high;
 let q2 := aj.mk (aa 0) [] [];
 let q3 := (↑d.length : Int);
 let q4 := List.getD q9 0 (At.mk (0 : Int) (0 : Int) []);
 let q5 : List V := [aa q3, aa c.min, aa c.max];
 let q6 := bz q3 c.min c.max;
 let q7 := aj.mk (aa 6) [] [];
 let q8 := aj.mk (aa 4) [] []; bif decide (q3 > 0) then .ag [(0 : Int) <= 0 /\ (0 : Int) < q3, List.take 3 (List.drop 0 (ah ak d)) = ak q4] (bif q4.kind != c.kind then .done (aj.mk (aa 9) [] []) else .bind q6 fun y0 => .ag
  [ao (Env.P cH) 45 q5 [] (aj.mk (.bool y0) [] [])] (bif !y0 then .done q7 else bif c.kind == 1 then .bind q1 fun y1 => .ag [ao (Env.P cH) 211 [ab ak d, .fn 240 [.ptr 0 0]] [cW c] (aj.mk (.bool y1) [cW q] [])] (bif y1
  then .done q8 else .done q2) else .done q2)) else .bind q6 fun y2 => .ag [ao (Env.P cH) 45 q5 [] (aj.mk (.bool y2) [] [])] (bif !y2 then .done q7 else bif c.kind == 1 then .bind q1 fun y3 => .ag [ao (Env.P cH) 211 [ab ak
  d, .fn 240 [.ptr 0 0]] [cW c] (aj.mk (.bool y3) [cW q] [])] (bif y3 then .done q8 else .done q2) else .done q2) : T _) := by kernel_rfl
def Fb (rows : List Rw) (i : Int) : St := ⟨ai 22 [(0, ab av rows), (3, .int .i64 i)], [], []⟩
def WR : Ex -> Kp := fun ex => match ex with
 | .normal => { keep := [0, 3] }
 | .ret => { keep := [2] }
 | _ => { keep := [] }
theorem EA (rows : List Rw) (i : Int) : bx cH 0 WR (lp Tryz.prog sY 0) (Fb rows i) = (
 let q2 := ah av rows;
 let q4 := IntKind.i64.wrap (i - 1);
 let q := List.getD (ae av q2) q4.toNat (Rw.mk (0 : Int) []);
 let q1 := List.getD (ae av q2) i.toNat (Rw.mk (0 : Int) []);
 let q3 := (↑rows.length : Int); bif decide (i < q3) then .ag [0 <= IntKind.i64.wrap (i - 1) /\ IntKind.i64.wrap (i - 1) < q3, List.take 2 (List.drop (q4.toNat * 2) q2) = (av q)] (.ag [0 <= i /\ i < q3, List.take 2 (List.drop (i.toNat
  * 2) q2) = (av q1)] (bif decide (q.id >= q1.id) then .done (Ex.ret, St.mk (ai 22 [(2, .bool false)]) [] []) else .done (Ex.normal, St.mk (ai 22 [(0, ab av rows), (3, aa (IntKind.i64.wrap (i + 1)))]) [] []))) else .done
  (Ex.exit 0, St.mk (ai 22 []) [] []) : T _) := by kernel_rfl
noncomputable def Vf : Nat -> St -> Option bT := fun id s => match id, s.tm.get 0 with
 | 0, .dsl _ _ cs => some ⟨(), fun _ => .one { keep := [0, 3] } (Fb (ae av cs) 1) (.exit 0) ⟨ai 22 [], [], []⟩⟩
 | _, _ => none
noncomputable def A2 : Env := { P := Tryz.prog, vw := cq, res := mQ, ls := Vf }
theorem Zu (rows : List Rw) : fnT A2 0 sY [ab av rows] [] = (
 let q := ai 22 [(0, ab av (ae av (ah av rows))), (3, aa 1)]; .bind PUnit.unit fun _ => .ag [St.mk (ai 22 [(0, ab av rows), (3, aa 1)]) [] [] = St.mk q [] [], aV (Env.P A2) 0 (blk Tryz.prog sY 0)
  (St.mk q [] []) (Ex.exit 0) (St.mk (ai 22 []) [] [])] (.done (aj.mk (.bool true) [] [])) : T _) := (T.force_eq _).symm.trans (by kernel_rfl)
def EU (t : Tb) (r : Rw) (i : Int) : St := ⟨ai 36 [(2, .ptr 0 0), (15, ab a7 r.cells), (16, .int .i64 r.cells.length), (17, .int .i64 i)], [some (aq t, fO)], []⟩
def Wo : Ex -> Kp := fun ex => match ex with
 | .normal => { keep := [2, 15, 16, 17] }
 | .ret => { keep := [4] }
 | _ => { keep := [] }
theorem GH (t : Tb) (r : Rw) (i : Int) : bx cH 0 Wo (lp Tryz.prog qm 0) (EU t r i) = (
 let q := List.getD (ae ba (ah ba t.aw)) i.toNat (bt.mk [] (0 : Int) (0 : Int) (0 : Int) (0 : Int) (0 : Int) [] false);
 let q3 := ah a7 r.cells;
 let q1 := List.getD (ae a7 q3) i.toNat [];
 let q2 := (↑r.cells.length : Int); bif decide (i < q2) then .ag [0 <= i /\ i < q2, List.take 1 (List.drop (i.toNat * 1) q3) = [ab ak q1]] (.bind PUnit.unit fun _ => .ag [ao (Env.P cH) 121 [ab ak q1] [] (aj.mk (.bool true)
  [] [])] (.ag [0 <= i /\ i < (↑t.aw.length : Int), List.take 8 (List.drop (i.toNat * 8) (ah ba t.aw)) = ba q] (.bind (cX (bt.mk q.name q.kind q.min q.max q.low q.high q.ref q.eR) (ae ak (ah ak q1))) fun
  y1 => .ag [ao (Env.P cH) 188 [.agg (ba q), ab ak q1] [] (aj.mk (aa y1) [] [])] (bif y1 != 0 then .done (Ex.ret, St.mk (ai 36 [(4, .bool false)]) [] []) else .done (Ex.normal, St.mk (ai 36 [(2, .ptr 0 0), (15, ab
  a7 r.cells), (16, aa q2), (17, aa (IntKind.i64.wrap (i + 1)))]) [some ((aq t), 44)] []))))) else .done (Ex.exit 0, St.mk (ai 36 []) [] []) : T _) := by kernel_rfl
noncomputable def Uy (t : Tb) (r : Rw) : Nat -> St -> Option bT := fun id _ => match id with
 | 0 => some ⟨(), fun _ => .one { keep := [2, 15, 16, 17] } (EU t r 0) (.exit 0) ⟨ai 36 [], [], []⟩⟩
 | _ => none
noncomputable def FI (t : Tb) (r : Rw) : Env := { P := Tryz.prog, vw := cq, res := mQ, ls := Uy t r }
theorem OP (t : Tb) (r : Rw) : fnT (FI t r) 0 qm [.agg (aq t), .agg (av r)] [] = (
 let q2 := (↑r.cells.length : Int);
 let q := ai 36 [(2, .ptr 0 0), (15, ab a7 r.cells), (16, aa q2), (17, aa 0)];
 let q1 : Hp := [some ((aq t), 44)]; bif q2 != (↑t.aw.length : Int) then .done (aj.mk (.bool false) [] []) else .bind PUnit.unit fun _ => .ag [St.mk q q1 [] = St.mk q q1 [], aV Tryz.prog 0 (blk Tryz.prog qm 0) (St.mk q
  q1 []) (Ex.exit 0) (St.mk (ai 36 []) [] [])] (.done (aj.mk (.bool true) [] [])) : T _) := by kernel_rfl
theorem ZB (t : Tb) (r : Rw) : fnT cH 0 ym [.agg (aq t), .agg (av r)] [] = (
 let q := aj.mk (.bool true) [] []; .bind PUnit.unit fun _ => .ag [ao (Env.P cH) 54 [.agg (aq t)] [] q] (.bind (lN r.id) fun y1 => .ag [ao (Env.P cH) 110 [aa r.id] [] (aj.mk (.bool y1) [] [])] (bif y1 then .bind
  PUnit.unit fun _ => .ag [ao (Env.P cH) 111 [.agg (aq t), .agg (av r)] [] q] (.done q) else .done (aj.mk (.bool false) [] []))) : T _) := (T.force_eq _).symm.trans (by kernel_rfl)
theorem Qs (a : At) (c : bt) : ao Tryz.prog ly [.agg (ak a), .ptr 0 0] [cW c] ⟨.bool (!bz a.n c.low c.high), [cW c], []⟩ := by
 refine bh (E := cH) follows named (Qr a c) (by simp) ?_
 simp only [T.WP, All, aA]
 rintro y rfl
 exact ⟨nW _ _ _, aQ⟩
theorem TK (d : aU) (c : bt) (h : d.length <= 1048576) :
  (fidx (fun x : At => !bz x.n c.low c.high) d 0 < 0 -> a8 Tryz.prog 1 (lp Tryz.prog fT 0) (wJ d c 0) (.exit 0) ⟨ai 19 [], [cW c], []⟩) /\
  (0 <= fidx (fun x : At => !bz x.n c.low c.high) d 0 -> a8 Tryz.prog 1 (lp Tryz.prog fT 0) (wJ d c 0) .ret ⟨ai 19 [(4, .int .i64 (fidx (fun x : At => !bz x.n c.low c.high) d 0))], [cW c], []⟩) := by
 refine lA (E := cH) (m := 1) (nf := kW) (st := fun i => wJ d c (i : Nat)) (sr := fun j => ⟨ai 19 [(4, .int .i64 j)], [cW c], []⟩) (fun x : At => !bz x.n c.low c.high) d ⟨0, 0, []⟩ follows named (by simp) (by simp) (fun i => TI d c (i : Nat)) (fun i hi => ?_) ?_ d.length 0 (by simp)
 ·have aL := bq.at d ⟨0, 0, []⟩ i 3 hi rfl
  simp only [az, T.WP, All, aB, aC, aA, Int.toNat_natCast, bq.ae, bE (show i < 9223372036854775807 by omega)]
  refine ⟨fun _ => ⟨⟨aK, aL⟩, ?_⟩, fun h => by omega⟩
  rintro y e
  have e : y = !bz (d.getD i ⟨0, 0, []⟩).n c.low c.high := e
  rw [<- e]
  refine ⟨by rw [e]; exact Qs _ c, fun h => ?_, fun h => ?_⟩
  ·rw [h]; rfl
  ·rw [h]; rfl
 ·simp only [az, T.WP, All, aB, aC, aA]
  exact ⟨fun h => by omega, fun _ => trivial⟩
theorem TL (d : aU) (c : bt) (h : d.length <= 1048576) : ao Tryz.prog fT [ab ak d, .fn ly [.ptr 0 0]] [cW c] ⟨.int .i64 (fidx (fun x : At => !bz x.n c.low c.high) d 0), [cW c], []⟩ := by
 have hl := TK d c h
 refine bh (E := xz) follows named (TJ d c) (by simp) ?_
 simp only [az, T.WP, All, aB, aC, aA, bq.ae]
 rintro y e
 have e : y = fidx (fun x : At => !bz x.n c.low c.high) d 0 := e
 rw [<- e] at hl ⊢
 refine ⟨bn, fun h0 => ⟨.bg (hl.1 h0), ?_⟩, fun h0 => ⟨.bg (hl.2 af), aQ⟩⟩
 have e1 : y = -1 := by
  rcases jN (fun x : At => !bz x.n c.low c.high) d 0 with h2 | h2 <;> omega
 rw [e1]; exact aQ
theorem Px (d : aU) (c : bt) (h : d.length <= 1048576) : ao Tryz.prog yf [ab ak d, .fn ly [.ptr 0 0]] [cW c] ⟨.bool (d.any (fun x : At => !bz x.n c.low c.high)), [cW c], []⟩ := by
 refine bh (E := cH) follows named (Pw d c) (by simp) ?_
 simp only [T.WP, All, aA, bq.ae]
 rintro y rfl
 refine ⟨TL d c h, ?_, rfl, by simp⟩
 refine congrArg V.bool ?_
 rw [Bool.eq_iff_iff, decide_eq_true_eq, List.any_eq_true]
 exact s8 (p := fun x : At => !bz x.n c.low c.high)
theorem Qw (c : bt) (d : aU) (h : d.length <= 1048576) : ao Tryz.prog Cd [.agg (ba c), ab ak d] [] ⟨.int .i64 (cX c d), [], []⟩ := by
 refine bh (E := cH) follows named (Qv c d) (by simp) ?_
 have aL : 0 < d.length -> List.take 3 (List.drop 0 (ah ak d)) = ak (d.getD 0 ⟨0, 0, []⟩) := fun h => by
  have := bq.at d ⟨0, 0, []⟩ 0 3 h rfl
  rwa [Nat.zero_mul] at this
 have hc := Px d c h
 have hw := nW d.length c.min c.max
 unfold cX
 simp only [az, T.WP, All, aB, aC, aA, aD, aE, aF, bq.ae, At.zero]
 have tail : ∀ y : Bool, y = bz d.length c.min c.max -> ao cH.P 45 [V.int IntKind.i64 d.length, V.int IntKind.i64 c.min, V.int IntKind.i64 c.max] [] ⟨V.bool y, [], []⟩ := by
  rintro y rfl
  exact hw
 have Aq : ∀ y : Bool, y = d.any (fun a => !bz a.n c.low c.high) -> ao cH.P yf [ab ak d, .fn ly [.ptr 0 0]] [cW c] ⟨.bool y, [cW c], []⟩ := by
  rintro y rfl
  exact hc
 refine ⟨fun h1 => ⟨⟨af, aL af⟩, fun h2 => ?_, fun h2 => ?_⟩, fun h1 => ?_⟩
 ·refine ⟨?_, rfl, by simp⟩
  simp_all [Bool.cond_eq_ite]
 ·rintro y e
  refine ⟨tail y e, fun h3 => ?_, fun h3 => ⟨fun h4 => ?_, fun h4 => ?_⟩⟩
  ·refine ⟨?_, rfl, by simp⟩
   simp_all [Bool.cond_eq_ite]
  ·rintro z e2
   refine ⟨Aq z e2, fun h5 => ?_, fun h5 => ?_⟩
   all_goals
    clear tail Aq hc hw aL
    refine ⟨congrArg _ ?_, rfl, by simp⟩
    rw [<- e, <- e2, h5]
    simp_all [Bool.cond_eq_ite]
  ·refine ⟨?_, rfl, by simp⟩
   simp_all [Bool.cond_eq_ite]
 ·rintro y e
  have h0 : d = [] := by
   cases d with
   | nil => rfl
   | cons a d => simp at h1
  refine ⟨tail y e, fun h3 => ?_, fun h3 => ⟨fun h4 => ?_, fun h4 => ?_⟩⟩
  ·refine ⟨?_, rfl, by simp⟩
   simp_all [Bool.cond_eq_ite]
  ·rintro z e2
   refine ⟨Aq z e2, fun h5 => ?_, fun h5 => ?_⟩
   all_goals
    clear tail Aq hc hw aL
    refine ⟨congrArg _ ?_, rfl, by simp⟩
    rw [<- e, <- e2, h5]
    simp_all [Bool.cond_eq_ite]
  ·refine ⟨?_, rfl, by simp⟩
   simp_all [Bool.cond_eq_ite]
theorem L6 (rows : List Rw) (hp : m4 rows) (hl : rows.length <= 1048576) : ∀ (k i : Nat), 1 <= i -> i + k = rows.length -> a8 Tryz.prog 0 (lp Tryz.prog sY 0) (Fb rows i) (.exit 0) ⟨ai 22 [], [], []⟩
 | 0, i, h1, hi => by
  have hi : i = rows.length := hi
  subst hi
  refine bl (E := cH) follows named (EA rows (rows.length : Nat)) ?_
  simp only [az, T.WP, All, aB, aC, aA]
  exact ⟨fun h => by omega, fun _ => ⟨rfl, rfl⟩⟩
 | k + 1, i, h1, hi => by
  have bH : i < rows.length := by omega
  have aL := bN.at rows ⟨0, []⟩ i 2 bH rfl
  have Rq := bN.at rows ⟨0, []⟩ (i - 1) 2 (by omega) rfl
  have w1 : IntKind.i64.wrap ((i : Int) + 1) = ((i + 1 : Nat) : Int) := bE (by omega)
  have w2 : IntKind.i64.wrap ((i : Int) - 1) = ((i - 1 : Nat) : Int) := by rw [show (i : Int) - 1 = ((i - 1 : Nat) : Int) by omega]; exact aj5 (by omega)
  have ih := L6 rows hp hl k (i + 1) (by omega) (by omega)
  have bO : (rows.getD (i - 1) ⟨0, []⟩).id < (rows.getD i ⟨0, []⟩).id := by
   have := List.pairwise_iff_getElem.1 hp (i - 1) i (by omega) bH (by omega)
   rw [List.getD_eq_getElem?_getD, List.getD_eq_getElem?_getD, List.getElem?_eq_getElem bH, List.getElem?_eq_getElem (show i - 1 < rows.length by omega)]
   exact this
  refine bl (E := cH) follows named (EA rows (i : Nat)) ?_
  simp only [az, T.WP, All, aB, aC, aA, w1, w2, bN.ae, Int.toNat_natCast]
  exact ⟨fun _ => ⟨⟨aK, Rq⟩, ⟨aK, aL⟩, fun h => by omega, fun _ => ih⟩, fun h => by omega⟩
theorem Zv (rows : List Rw) (hp : m4 rows) (hl : rows.length <= 1048576) : ao Tryz.prog sY [ab av rows] [] ⟨.bool true, [], []⟩ := by
 refine bh (E := A2) follows named (Zu rows) (by simp) ?_
 simp only [T.WP, All, aA, bN.ae]
 rintro _ -
 cases rows with
 | nil =>
  refine ⟨⟨bn, .bg ?_⟩, aQ⟩
  refine bl (E := cH) follows named (EA [] 1) ?_
  simp only [az, T.WP, All, aB, aC, aA]
  exact ⟨fun h => by simp at h, fun _ => ⟨rfl, rfl⟩⟩
 | cons r rows => exact ⟨⟨bn, .bg (L6 (r :: rows) hp hl rows.length 1 af (by simp; omega))⟩, aQ⟩
theorem GL {t : Tb} {r : Rw} (hr : dh t r) (hn : t.aw.length <= 1048576) (hm : ∀ c ∈ t.aw, c.max <= 8) : ∀ (k i : Nat), i + k = r.cells.length -> a8 Tryz.prog 0 (lp Tryz.prog qm 0) (EU t r i) (.exit 0) ⟨ai 36 [], [], []⟩
 | 0, i, hi => by
  have hi : i = r.cells.length := hi
  subst hi
  refine bl (E := cH) follows named (GH t r (r.cells.length : Nat)) ?_
  simp only [az, T.WP, All, aB, aC, aA]
  exact ⟨fun h => af, fun _ => ⟨rfl, rfl⟩⟩
 | k + 1, i, hi => by
  have bH : i < r.cells.length := af
  have qM : i < t.aw.length := by rw [<- hr.n]; exact bH
  have aL := bV.at r.cells [] i 1 bH rfl
  have qE := cR.at t.aw ⟨[], 0, 0, 0, 0, 0, [], false⟩ i 8 qM rfl
  have w1 : IntKind.i64.wrap ((i : Int) + 1) = ((i + 1 : Nat) : Int) := bE (by rw [hr.n] at bH; omega)
  have ih := GL hr hn hm k (i + 1) af
  obtain ⟨hd, hf⟩ := hr.d i qM
  have hlen : (r.cells.getD i []).length <= 8 := by
   have h1 := (u0 hf).2
   have h2 := hm _ (bP bt.zero qM)
   omega
  refine bl (E := cH) follows named (GH t r (i : Nat)) ?_
  simp only [az, T.WP, All, aB, aC, aA, w1, bV.ae, bq.ae, Int.toNat_natCast]
  refine ⟨fun _ => ⟨⟨aK, aL⟩, ?_⟩, fun h => af⟩
  rintro _ -
  refine ⟨He hd hlen, ⟨aK, by rw [cR.ae]; exact qE⟩, ?_⟩
  simp only [cR.ae]
  rintro y e
  have e : y = cX (t.aw.getD i bt.zero) (r.cells.getD i []) := e
  rw [hf] at e
  subst e
  refine ⟨?_, fun h => by simp at h, fun _ => ih⟩
  have := Qw (t.aw.getD i bt.zero) (r.cells.getD i []) af
  rw [hf] at this
  exact this
theorem GJ {t : Tb} {r : Rw} (hr : dh t r) (hn : t.aw.length <= 1048576) (hm : ∀ c ∈ t.aw, c.max <= 8) : ao Tryz.prog qm [.agg (aq t), .agg (av r)] [] ⟨.bool true, [], []⟩ := by
 refine bh (E := FI t r) follows named (OP t r) (by simp) ?_
 simp only [az, T.WP, All, aA]
 refine ⟨fun h => ?_, fun _ => ?_⟩
 ·rw [hr.n] at h; simp at h
 ·rintro _ -
  exact ⟨⟨bn, .bg (GL hr hn hm r.cells.length 0 af)⟩, aQ⟩
theorem L9 {t : Tb} {r : Rw} (hr : dh t r) (hn : t.aw.length <= 1048576) (hm : ∀ c ∈ t.aw, c.max <= 8) (hi : 1 <= r.id /\ r.id < 1000000) (ht : ao Tryz.prog yq [.agg (aq t)] [] ⟨.bool true, [], []⟩) : ao Tryz.prog ym [.agg (aq t), .agg (av r)] [] ⟨.bool true, [], []⟩ := by
 refine bh (E := cH) follows named (ZB t r) (by simp) ?_
 simp only [az, T.WP, All, aA]
 rintro _ -
 refine ⟨ht, ?_⟩
 rintro y rfl
 have hy : lN r.id = true := by unfold lN bz; simp; omega
 refine ⟨DG _, fun _ => ?_, fun h => by rw [hy] at h; cases h⟩
 rintro _ -
 exact ⟨GJ hr hn hm, aQ⟩
def zw : fG := fun _ _ _ => none
def KC : FuncId -> Bool := fun _ => false
theorem Xh : jf Tryz.prog zw := fun _ _ _ _ h => by cases h
theorem Xg : kE Tryz.prog zw := fun _ _ _ _ h => by cases h
theorem m5 {n d : Nat} {f : FuncId} {vs : List V} {hp : Hp} {r : aj} (h : deepC Tryz.prog zw n KC d f vs hp = some r) : ao Tryz.prog f vs hp r :=
 (Hh follows named Xg Xh d).1 _ _ _ _ h
theorem ao.P7 {P : Program} {f : FuncId} {vs : List V} {ez : Hp} {wr : List Nat} (h : ao P f vs [] ⟨.sl 0 0 0 true, ez, wr⟩) : ao P f vs [] ⟨.dsl 0 true [], [], []⟩ := by
 obtain ⟨ht, hm⟩ := h
 refine ⟨⟨Nat.le_refl _, fun b hb => by simp at hb, fun b hb => by simp at hb, fun b hb => by simp at hb⟩, fun I w μ ch hv pre dO => ?_⟩
 have ga : ∀ b, b ∉ wr := fun b hb => by have := ht.AE b hb; simp at this
 refine (hm I w μ ch hv ⟨pre.dj, by simp, by simp, fun b hb gU => ?_⟩ dO).mono ?_
 ·cases hμ : μ b with
  | none => rfl
  | some g => have := dO b g hμ; simp at this
 rintro e w' ⟨val, μ', I', he, hR, G⟩
 refine ⟨val, μ, I', he, ?_, ⟨G.dq, fun k hk => ?_, ?_, .refl _, fun b g hg => .inl hg, fun b _ _ => rfl, fun b hb blk h => by simp at h, fun b hb blk h => by simp at h, fun b c b1 b2 g bp hb hc h1 => by simp at h1⟩⟩
 ·simp only [V.R] at hR ⊢
  rcases hR with ⟨g, cap, _, _, _, _, h1, h2, _, h3, _⟩ | ⟨_, _, a, h1, h2⟩
  ·exact ⟨_, cap, h1, h2, h3, .inr ⟨g, 0, rfl⟩, .inl trivial⟩
  ·refine ⟨a, 0, h1, Nat.le_refl _, fun _ => rfl, ?_, .inl trivial⟩
   rcases h2 with rfl | h2
   ·exact .inl ⟨rfl, rfl⟩
   ·exact .inr h2
 ·rcases G.ei k hk with h | h | ⟨c, hc, _⟩
  ·exact .inl h
  ·exact .inr (.inl h)
  ·exact absurd hc (ga c)
 ·exact G.cr.mono fun k ⟨b, hb, _⟩ => absurd hb (ga b)
def isEmp (x : Option aj) : Bool := match x with
 | some ⟨.sl 0 0 0 true, _, _⟩ => true
 | _ => false
theorem PR {n d : Nat} {f : FuncId} {vs : List V} (h : isEmp (deepC Tryz.prog zw n KC d f vs []) = true) : ao Tryz.prog f vs [] ⟨.dsl 0 true [], [], []⟩ := by
 unfold isEmp at h
 split at h
 ·rename_i hd; exact ao.P7 (m5 hd)
 ·cases h
theorem OZ {f : FuncId} (h1 : ao Tryz.prog f [.lit (.slice none 0 0)] [] ⟨.dsl 0 true [], [], []⟩) (h2 : ∀ g off cap, ao Tryz.prog f [.lit (.slice (some ⟨g, off, none⟩) 0 cap)] [] ⟨.dsl 0 true [], [], []⟩) :
  ao Tryz.prog f [.dsl 0 false []] [] ⟨.dsl 0 true [], [], []⟩ := by
 refine ⟨h1.1, fun I w μ ch hv pre dO => ?_⟩
 simp only [V.RL, V.R] at hv
 obtain ⟨u, us, kr, ⟨a, cap, rfl, _, hc, ha, _⟩, rfl⟩ := hv
 rcases ha with ⟨rfl, rfl⟩ | ⟨g, off, rfl⟩
 ·exact h1.2 I w μ ch (by simp only [V.RL, V.R]; exact ⟨_, _, kr, rfl, rfl⟩) pre dO
 ·exact (h2 g off cap).2 I w μ ch (by simp only [V.RL, V.R]; exact ⟨_, _, kr, rfl, rfl⟩) pre dO
theorem O0 : ao Tryz.prog sI [.dsl 0 false []] [] ⟨.dsl 0 true [], [], []⟩ :=
 OZ (m5 (n := 100) (d := 1) (by kernel_rfl)) fun g off cap => PR (n := 100) (d := 1) (by kernel_rfl)
abbrev HJ : Nat := 48
theorem ZZ : ao Tryz.prog HI [.agg [ab aq aO]] [] ⟨.bool true, [], []⟩ := m5 (n := 1000) (d := 30) (by kernel_rfl)
theorem Z0 : ao Tryz.prog HJ [.agg [ab aq aO]] [] ⟨.bool true, [], []⟩ := m5 (n := 1000) (d := 30) (by kernel_rfl)
theorem Fx {t : Nat} (ht : t < 3) : ao Tryz.prog yq [.agg (aq (bA t))] [] ⟨.bool true, [], []⟩ := by
 have : t = 0 \/ t = 1 \/ t = 2 := af
 rcases this with rfl | rfl | rfl
 ·exact m5 (n := 1000) (d := 30) (by kernel_rfl)
 ·exact m5 (n := 1000) (d := 30) (by kernel_rfl)
 ·exact m5 (n := 1000) (d := 30) (by kernel_rfl)
def gz (S : aS) : Option bM := some ([ab aq S], 25)
def ES (x : aM) : Option bM := some (aP x, 29)
def Fg (S : aS) (x : aM) (i : Int) (rows : List Rw) (k : Int) : St := ⟨ai 68 [(2, .ptr 0 0), (3, .ptr 1 0), (5, .int .i64 i), (28, ab aI x.ar), (29, .int .i64 x.ar.length), (30, .int .i64 i), (43, ab av rows), (44, .int .i64 rows.length), (45, .int .i64 k)], [gz S, ES x], []⟩
def WV : Ex -> Kp := fun ex => match ex with
 | .normal => { keep := [2, 3, 5, 28, 29, 30, 43, 44, 45] }
 | .ret => { keep := [4] }
 | .exit _ => { keep := [2, 3, 28, 29, 30] }
def wY (S : aS) (x : aM) (i : Int) : St := ⟨ai 68 [(2, .ptr 0 0), (3, .ptr 1 0), (28, ab aI x.ar), (29, .int .i64 x.ar.length), (30, .int .i64 i)], [gz S, ES x], []⟩
def WW : Ex -> Kp := fun ex => match ex with
 | .normal => { keep := [2, 3, 28, 29, 30] }
 | .ret => { keep := [4] }
 | .exit _ => { keep := [] }
theorem MF (S : aS) (x : aM) (i : Int) (rows : List Rw) (k : Int) : bx cH 0 WV (lp Tryz.prog nk 2) (Fg S x i rows k) = (
 let q := List.getD (ae av (ah av rows)) k.toNat (Rw.mk (0 : Int) []);
 let q1 := List.getD (ae aq (ah aq S)) i.toNat (Tb.mk [] [] [] false);
 let q2 := IntKind.i64.wrap (x.next - 1);
 let q3 := (↑rows.length : Int);
 let q4 := (↑x.ar.length : Int); bif decide (k < q3) then .ag [0 <= k /\ k < q3, List.take 2 (List.drop (k.toNat * 2) (ah av rows)) = (av q)] (.bind (bz q.id (1 : Int) q2) fun y0 => .ag [ao (Env.P cH) 45 [aa q.id, aa 1,
  aa q2] [] (aj.mk (.bool y0) [] [])] (bif !y0 then .done (Ex.ret, St.mk (ai 68 [(4, .bool false)]) [] []) else .ag [0 <= i /\ i < (↑S.length : Int), List.take 4 (List.drop (i.toNat * 4) (ah aq S)) = aq q1] (.bind PUnit.unit
  fun _ => .ag [ao (Env.P cH) 111 [.agg (aq q1), .agg (av q)] [] (aj.mk (.bool true) [] [])] (.done (Ex.normal, St.mk (ai 68 [(2, .ptr 0 0), (3, .ptr 1 0), (5, aa i), (28, ab aI x.ar), (29, aa q4), (30, aa i),
  (43, ab av rows), (44, aa q3), (45, aa (IntKind.i64.wrap (k + 1)))]) [gz S, some ((aP x), 29)] []))))) else .done (Ex.exit 2, St.mk (ai 68 [(2, .ptr 0 0), (3, .ptr 1 0), (28, ab aI x.ar), (29, aa q4), (30, aa i)])
  [gz S, some ((aP x), 29)] []) : T _) := by kernel_rfl
noncomputable def A5 (S : aS) (x : aM) : Env := { P := Tryz.prog, vw := cq, res := mQ, ls := fun id s => match id, s.tm.get 30, s.tm.get 43 with
 | 2, .int _ i, .dsl _ _ cs => some ⟨(), fun _ => .one { keep := [2, 3, 5, 28, 29, 30, 43, 44, 45] } (Fg S x i (ae av cs) 0) (.exit 2) (wY S x i)⟩
 | _, _, _ => none }
theorem MH (S : aS) (x : aM) (i : Int) : bx (A5 S x) 0 WW (lp Tryz.prog nk 0) (wY S x i) = (
 let q4 := ah aI x.ar;
 let q := List.getD (ae aI q4) i.toNat [];
 let q2 := (↑x.ar.length : Int);
 let q3 := ae av (ah av q);
 let q1 := ai 68 [(2, .ptr 0 0), (3, .ptr 1 0), (5, aa i), (28, ab aI x.ar), (29, aa q2), (30, aa i), (43, ab av q3), (44, aa (↑q3.length : Int)), (45, aa 0)]; bif decide (i < q2) then .ag [0 <= i /\ i < q2, List.take 1
  (List.drop (i.toNat * 1) q4) = [ab av q]] (bif decide ((↑q.length : Int) > 12) then .done (Ex.ret, St.mk (ai 68 [(4, .bool false)]) [] []) else .bind PUnit.unit fun _ => .ag [ao Tryz.prog 79 [ab av q] [] (aj.mk (.bool
  true) [] [])] (.bind PUnit.unit fun _ => .ag [St.mk (ai 68 [(2, .ptr 0 0), (3, .ptr 1 0), (5, aa i), (28, ab aI x.ar), (29, aa q2), (30, aa i), (43, ab av q), (44, aa (↑q.length : Int)), (45, aa 0)]) [gz S, some
  ((aP x), 29)] [] = St.mk q1 [gz S, some ((aP x), 29)] [], aV Tryz.prog 0 (blk Tryz.prog nk 2) (St.mk q1 [gz S, some ((aP x), 29)] []) (Ex.exit 2) (St.mk (ai 68 [(2, .ptr 0 0), (3, .ptr 1 0), (28, ab aI
  x.ar), (29, aa q2), (30, aa i)]) [gz S, some ((aP x), 29)] [])] (.done (Ex.normal, St.mk (ai 68 [(2, .ptr 0 0), (3, .ptr 1 0), (28, ab aI x.ar), (29, aa q2), (30, aa (IntKind.i64.wrap (i + 1)))]) [gz S, some
  ((aP x), 29)] [])))) else .done (Ex.exit 0, St.mk (ai 68 []) [] []) : T _) := by kernel_rfl
noncomputable def FZ (S : aS) (x : aM) : Env := { P := Tryz.prog, vw := cq, res := mQ, ls := fun id _ => match id with
 | 0 => some ⟨(), fun _ => .one { keep := [2, 3, 28, 29, 30] } (wY S x 0) (.exit 0) ⟨ai 68 [], [], []⟩⟩
 | _ => none }
theorem skT (S : aS) (x : aM) : fnT (FZ S x) 0 nk [.agg [ab aq S], .agg (aP x)] [] = (
 let q1 := (↑x.ar.length : Int);
 let q := ai 68 [(2, .ptr 0 0), (3, .ptr 1 0), (28, ab aI x.ar), (29, aa q1), (30, aa 0)];
 let q2 := aj.mk (.bool false) [] [];
 let q3 := aj.mk (.bool true) [] []; .bind PUnit.unit fun _ => .ag [ao Tryz.prog 83 [.agg [ab aq S]] [] q3] (bif q1 != (↑S.length : Int) then .done q2 else .bind (lN x.next) fun y1 => .ag [ao Tryz.prog 110 [aa x.next] []
  (aj.mk (.bool y1) [] [])] (bif !y1 then .done q2 else .bind PUnit.unit fun _ => .ag [St.mk q [gz S, some ((aP x), 29)] [] = St.mk q [gz S, some ((aP x), 29)] [], aV Tryz.prog 0 (blk Tryz.prog nk 0) (St.mk q [gz
  S, some ((aP x), 29)] []) (Ex.exit 0) (St.mk (ai 68 []) [] [])] (.done q3))) : T _) := (T.force_eq _).symm.trans (by kernel_rfl)
theorem MG {S : aS} {x : aM} {i : Nat} {rows : List Rw} (vu : i < S.length) (hx : x.next <= 1000000) (hr : ∀ r ∈ rows, 1 <= r.id /\ r.id < x.next) (hc : ∀ r ∈ rows, ao Tryz.prog qm [.agg (aq (S.getD i .zero)), .agg (av r)] [] ⟨.bool true, [], []⟩) (hl : rows.length <= 1048576) : ∀ (k j : Nat), j + k = rows.length ->
  a8 Tryz.prog 0 (lp Tryz.prog nk 2) (Fg S x i rows j) (.exit 2) (wY S x i)
 | 0, j, hj => by
  have hj : j = rows.length := hj
  subst hj
  refine bl (E := cH) follows named (MF S x (i : Nat) rows (rows.length : Nat)) ?_
  simp only [az, T.WP, All, aB, aC, aA]
  exact ⟨fun h => af, fun _ => ⟨rfl, rfl⟩⟩
 | k + 1, j, hj => by
  have fW : j < rows.length := af
  have aL := bN.at rows ⟨0, []⟩ j 2 fW rfl
  have dC := bJ.at S ⟨[], [], [], false⟩ i 4 vu rfl
  have w1 : IntKind.i64.wrap ((j : Int) + 1) = ((j + 1 : Nat) : Int) := bE af
  have hm := bP (⟨0, []⟩ : Rw) fW
  have qS := hr _ hm
  have w2 : IntKind.i64.wrap (x.next - 1) = x.next - 1 := cQ af
  have ih := MG vu hx hr hc hl k (j + 1) af
  refine bl (E := cH) follows named (MF S x (i : Nat) rows (j : Nat)) ?_
  simp only [az, T.WP, All, aB, aC, aA, w1, w2, bN.ae, bJ.ae, Int.toNat_natCast]
  refine ⟨fun _ => ⟨⟨aK, aL⟩, ?_⟩, fun h => af⟩
  rintro y e
  have hy : y = true := by rw [e]; unfold bz; rw [Bool.and_eq_true, decide_eq_true_eq, decide_eq_true_eq]; omega
  refine ⟨by rw [e]; exact nW _ _ _, fun h => by rw [hy] at h; simp at h, fun _ => ⟨⟨aK, dC⟩, ?_⟩⟩
  rintro _ -
  exact ⟨hc _ hm, ih⟩
theorem MI {x : aM} (hx : gP x) (hn : x.next <= 1000000) : ∀ (k j : Nat), j + k = 3 -> a8 Tryz.prog 0 (lp Tryz.prog nk 0) (wY aO x j) (.exit 0) ⟨ai 68 [], [], []⟩
 | 0, j, hj => by
  have h3 := hx.2.n
  have hj : j = 3 := hj
  subst hj
  refine bl (E := A5 aO x) follows named (MH aO x ((3 : Nat) : Int)) ?_
  simp only [az, T.WP, All, aB, aC, aA, h3]
  exact ⟨fun h => by omega, fun _ => ⟨rfl, rfl⟩⟩
 | k + 1, j, hj => by
  have h3 := hx.2.n
  have fW : j < x.ar.length := by omega
  have hR := hx.2.r j (by omega)
  have aL := bB.at x.ar [] j 1 fW rfl
  have w1 : IntKind.i64.wrap ((j : Int) + 1) = ((j + 1 : Nat) : Int) := bE (by omega)
  have ih := MI hx hn k (j + 1) (by omega)
  have hG := iL (show j < 3 by omega)
  have vE := hR.n
  have cL := MG (S := aO) (x := x) (i := j) (rows := x.ar.getD j []) (by show j < 3; omega) hn hR.i (fun r hr => GJ (hR.c r hr) (Nat.le_trans hG.n (by omega)) hG.mx) (by omega) (x.ar.getD j []).length 0 (by omega)
  have qS := Zv _ hR.p (by omega)
  refine bl (E := A5 aO x) follows named (MH aO x (j : Nat)) ?_
  simp only [az, T.WP, All, aB, aC, aA, w1, bN.ae, bB.ae, Int.toNat_natCast]
  refine ⟨fun _ => ⟨⟨aK, aL⟩, fun h => by omega, fun _ => ?_⟩, fun h => by omega⟩
  rintro _ -
  refine ⟨qS, ?_⟩
  rintro _ -
  exact ⟨⟨bn, .bg cL⟩, ih⟩
theorem Qt {x : aM} (hx : gP x) (hn : x.next <= 1000000) : ao Tryz.prog nk [.agg [ab aq aO], .agg (aP x)] [] ⟨.bool true, [], []⟩ := by
 have h3 := hx.2.n
 have h1 := hx.1
 refine bh (E := FZ aO x) follows named (skT aO x) (by simp) ?_
 simp only [az, T.WP, All, aA]
 rintro _ -
 refine ⟨ZZ, fun h => by rw [h3] at h; exact absurd h (by decide), fun _ => ?_⟩
 rintro y e
 have hy : y = true := by rw [e]; unfold lN bz; simp; omega
 refine ⟨by rw [e]; exact DG _, fun h => by rw [hy] at h; simp at h, fun _ => ?_⟩
 rintro _ -
 exact ⟨⟨bn, .bg (MI hx hn 3 0 rfl)⟩, aQ⟩
end Go.Proofs.YtlomaojlpodibaaGreat

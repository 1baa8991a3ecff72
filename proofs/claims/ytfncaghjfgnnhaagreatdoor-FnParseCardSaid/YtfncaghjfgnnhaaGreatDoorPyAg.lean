/-
  The program's JsonOK.
  What is one's own is lent to a function that only reads it, or given away.
  Steps one behind the other; a contract's blocks, said in another way ahead of the call or behind it.
  The program's reader of values: what it does, as a function.
  The reference's reader of values: what it does, as a function; lists.
  The reference's reader of values: lists, the whole.
  The evaluator of closed calls: deep, by fuel.
  sync.Once, its parts: the lock, the two calls that doSlow defers.
  sync.Once, not yet done, the lock free: the function is called, 'done' is stored.
  Steps of the machine's memory one behind the other.
  sync.Once's Do as a contract: what the function does, and 'done'.
  Closed calls: results reckoned whole.
  A call whose blocks are not looked at any more.
  strings.NewReplacer and its Replace, as the program uses them.
  The library's Replace over single bytes.
-/
import Derived.Test.YtfncaghjfgnnhaaGreatDoorPyAf
import Derived.Tactics
import Derived.Tactics2
import Derived.Defers
import Derived.Laws.Pointers
import Derived.Laws.LoneSync
import Derived.RegionTactic
import Derived.RegionCalls
import Derived.ChangeAlike
import Derived.Laws.NewBlocks
import Derived.Shelf.Strings.Count
namespace Go.Proofs.YtfncaghjfgnnhaaGreatDoor
open Go.RowKit
set_option maxRecDepth 100000
abbrev fRightIn : Nat := 38
abbrev fRightIn1 : Nat := 60
abbrev fContJ : Nat := 59
abbrev fIdxJ : Nat := 91
abbrev fIJsonOK : Nat := 15
abbrev tInt : Nat := 3
abbrev tPInt : Nat := 54
def nB (n : Int) : Option Blk := some ([.int .i64 n], tInt)
def pB (b : Nat) : Option Blk := some ([.ptr b 0], tPInt)
inductive MJ : J → Prop where
 | mk {j : J} (h : Mod j) (hl : j.items.length ≤ 4294967296) (hi : ∀ x ∈ j.items, MJ x) : MJ j
theorem MJ.mod {j : J} : MJ j → Mod j | .mk h _ _ => h
theorem MJ.len {j : J} : MJ j → j.items.length ≤ 4294967296 | .mk _ h _ => h
theorem MJ.item {j : J} : MJ j → ∀ x ∈ j.items, MJ x | .mk _ _ h => h
noncomputable def resR : ResT := fun f vs hp => match vs, hp with
 | [.agg [.int _ k, .int _ n, .str t, .dsl _ _ ks, .dsl _ _ its]], [] => bif Nat.beq f fPartOK then some ⟨partJ (jOf k n t ks its), fun y => ⟨.bool y, [], []⟩⟩ else none
 | [.agg [.int _ k, .int _ n, .str t, .dsl _ _ ks, .dsl _ _ its], .int _ d, .ptr 0 0], [some ([.int _ room], _)] => bif Nat.beq f fRightIn then some ⟨rightJ (jOf k n t ks its) d room, fun y => ⟨.bool y.1, [nB y.2], [0]⟩⟩ else none
 | [.agg [.int _ k, .int _ n, .str t, .dsl _ _ ks, .dsl _ _ its], .ptr 0 0, .ptr 1 0], [some ([.int _ d], _), _, some ([.int _ room], _)] => bif Nat.beq f fRightIn1 then some ⟨rightJ (jOf k n t ks its) (d + 1) room, fun y => ⟨.bool (!y.1), [nB d, pB 2, nB y.2], [2]⟩⟩ else none
 | [.dsl _ _ cs, .fn _ _], [some ([.int _ d], _), _, some ([.int _ room], _)] => bif Nat.beq f fContJ then some ⟨rightJs (decL encJ cs) (d + 1) room, fun y => ⟨.bool (!y.1), [nB d, pB 2, nB y.2], [2]⟩⟩ else none
 | _, _ => none
noncomputable def ER : Env := { P := Tryz.prog, vw := vwA, res := resR }
--FOLD nB pB
set_option maxRecDepth 100000 in
theorem rightIn1T (j : J) (d room : Int) : fnT ER 0 fRightIn1 [.agg (vwJ j), .ptr 0 0, .ptr 1 0] [nB d, pB 2, nB room] = (
 .bind (rightJ (jOf (J.kind j) (J.n j) (J.t j) (encs encStr (J.keys j)) (encs encJ (J.items j))) (IntKind.wrap IntKind.i64 (d + 1)) room) fun y0 => .need [FnOK (Env.P ER) 38 [.agg [.int .i64 (J.kind j), .int .i64 (J.n j), .str (J.t j), .dsl
 (List.length (J.keys j)) false (encs encStr (J.keys j)), .dsl (List.length (J.items j)) false (encs encJ (J.items j))], .int .i64 (IntKind.wrap IntKind.i64 (d + 1)), .ptr 0 0] [nB room] (Ret.mk (.bool y0.1) [nB y0.2] [0])] (.done (Ret.mk
 (.bool !y0.1) [nB d, pB 2, nB y0.2] [2])) : T _) := (T.force_eq _).symm.trans (by kernel_rfl)
set_option maxRecDepth 100000 in
theorem rightInT (j : J) (d room : Int) : fnT ER 0 fRightIn [.agg (vwJ j), .int .i64 d, .ptr 0 0] [nB room] = (
 bif decide (IntKind.wrap IntKind.i64 (room - 1) < 0) then .done (Ret.mk (.bool false) [nB (IntKind.wrap IntKind.i64 (room - 1))] [0]) else bif decide (d ≥ 12) then .done (Ret.mk (.bool false) [nB (IntKind.wrap IntKind.i64 (room - 1))] [0])
 else .bind (partJ (jOf (J.kind j) (J.n j) (J.t j) (encs encStr (J.keys j)) (encs encJ (J.items j)))) fun y0 => .need [FnOK (Env.P ER) 58 [.agg [.int .i64 (J.kind j), .int .i64 (J.n j), .str (J.t j), .dsl (List.length (J.keys j)) false (encs
 encStr (J.keys j)), .dsl (List.length (J.items j)) false (encs encJ (J.items j))]] [] (Ret.mk (.bool y0) [] [])] (bif !y0 then .done (Ret.mk (.bool false) [nB (IntKind.wrap IntKind.i64 (room - 1))] [0]) else .bind (rightJs (decL encJ (encs
 encJ (J.items j))) (d + 1) (IntKind.wrap IntKind.i64 (room - 1))) fun y1 => .need [FnOK (Env.P ER) 59 [.dsl (List.length (J.items j)) false (encs encJ (J.items j)), .fn 60 [.ptr 0 0, .ptr 1 0]] [nB d, pB 2, nB (IntKind.wrap IntKind.i64
 (room - 1))] (Ret.mk (.bool !y1.1) [nB d, pB 2, nB y1.2] [2])] (.done (Ret.mk (.bool !!y1.1) [nB y1.2] [0]))) : T _) := by kernel_rfl
def stRi (L : List J) (d i room : Int) : St := ⟨mkTm 19 [(0, sls encJ L), (1, .fn fRightIn1 [.ptr 0 0, .ptr 1 0]), (7, .int .i64 L.length), (8, .int .i64 i)], [nB d, pB 2, nB room], [2]⟩
def nfRi : Ex → Kp := fun ex => match ex with
 | .normal => { keep := [0, 1, 7, 8], wr := [2] }
 | .ret => { keep := [4], wr := [2] }
 | .exit _ => { keep := [], wr := [2] }
set_option maxRecDepth 100000 in
theorem idx0 (L : List J) (d i room : Int) : bodyT ER 3 nfRi (lp Tryz.prog fIdxJ 0) (stRi L d i room) = (
 bif decide (i < (↑L.length : Int)) then .need [0 ≤ i ∧ i < (↑L.length : Int), List.take 5 (List.drop (Int.toNat i * 5) (encs encJ L)) = [.int .i64 (J.kind (List.getD (decL encJ (encs encJ L)) (Int.toNat i) (J.mk (0 : Int) (0 : Int) [] []
 []))), .int .i64 (J.n (List.getD (decL encJ (encs encJ L)) (Int.toNat i) (J.mk (0 : Int) (0 : Int) [] [] []))), .str (J.t (List.getD (decL encJ (encs encJ L)) (Int.toNat i) (J.mk (0 : Int) (0 : Int) [] [] []))), .dsl (List.length (J.keys
 (List.getD (decL encJ (encs encJ L)) (Int.toNat i) (J.mk (0 : Int) (0 : Int) [] [] [])))) false (encs encStr (J.keys (List.getD (decL encJ (encs encJ L)) (Int.toNat i) (J.mk (0 : Int) (0 : Int) [] [] [])))), .dsl (List.length (J.items
 (List.getD (decL encJ (encs encJ L)) (Int.toNat i) (J.mk (0 : Int) (0 : Int) [] [] [])))) false (encs encJ (J.items (List.getD (decL encJ (encs encJ L)) (Int.toNat i) (J.mk (0 : Int) (0 : Int) [] [] []))))]] (.bind (rightJ (jOf (J.kind
 (List.getD (decL encJ (encs encJ L)) (Int.toNat i) (J.mk (0 : Int) (0 : Int) [] [] []))) (J.n (List.getD (decL encJ (encs encJ L)) (Int.toNat i) (J.mk (0 : Int) (0 : Int) [] [] []))) (J.t (List.getD (decL encJ (encs encJ L)) (Int.toNat i)
 (J.mk (0 : Int) (0 : Int) [] [] []))) (encs encStr (J.keys (List.getD (decL encJ (encs encJ L)) (Int.toNat i) (J.mk (0 : Int) (0 : Int) [] [] [])))) (encs encJ (J.items (List.getD (decL encJ (encs encJ L)) (Int.toNat i) (J.mk (0 : Int) (0 :
 Int) [] [] []))))) (d + 1) room) fun y0 => .need [FnOK (Env.P ER) 60 [.agg [.int .i64 (J.kind (List.getD (decL encJ (encs encJ L)) (Int.toNat i) (J.mk (0 : Int) (0 : Int) [] [] []))), .int .i64 (J.n (List.getD (decL encJ (encs encJ L))
 (Int.toNat i) (J.mk (0 : Int) (0 : Int) [] [] []))), .str (J.t (List.getD (decL encJ (encs encJ L)) (Int.toNat i) (J.mk (0 : Int) (0 : Int) [] [] []))), .dsl (List.length (J.keys (List.getD (decL encJ (encs encJ L)) (Int.toNat i) (J.mk (0 :
 Int) (0 : Int) [] [] [])))) false (encs encStr (J.keys (List.getD (decL encJ (encs encJ L)) (Int.toNat i) (J.mk (0 : Int) (0 : Int) [] [] [])))), .dsl (List.length (J.items (List.getD (decL encJ (encs encJ L)) (Int.toNat i) (J.mk (0 : Int)
 (0 : Int) [] [] [])))) false (encs encJ (J.items (List.getD (decL encJ (encs encJ L)) (Int.toNat i) (J.mk (0 : Int) (0 : Int) [] [] []))))], .ptr 0 0, .ptr 1 0] [nB d, pB 2, nB room] (Ret.mk (.bool !y0.1) [nB d, pB 2, nB y0.2] [2])] (bif
 !y0.1 then .done (Ex.ret, St.mk (mkTm 19 [(4, .int .i64 i)]) [nB d, pB 2, nB y0.2] [2]) else .done (Ex.normal, St.mk (mkTm 19 [(0, .dsl L.length false (encs encJ L)), (1, .fn 60 [.ptr 0 0, .ptr 1 0]), (7, .int .i64 (↑L.length : Int)), (8,
 .int .i64 (IntKind.wrap IntKind.i64 (i + 1)))]) [nB d, pB 2, nB y0.2] [2]))) else .done (Ex.exit 0, St.mk (mkTm 19 []) [nB d, pB 2, nB room] [2]) : T _) := by kernel_rfl
mutual
theorem rightJ_room : ∀ (j : J) (d room : Int), 0 ≤ room → (rightJ j d room).1 = true → 0 ≤ (rightJ j d room).2 ∧ (rightJ j d room).2 ≤ room
 | .mk k n t ks its, d, room, h, ht => by
  rw [rightJ] at ht ⊢
  split at ht
  ·cases ht
  ·rename_i hc
   rw [if_neg hc]
   have := rightJs_room its (d + 1) (room - 1) (by omega) ht
   omega
theorem rightJs_room : ∀ (L : List J) (d room : Int), 0 ≤ room → (rightJs L d room).1 = true → 0 ≤ (rightJs L d room).2 ∧ (rightJs L d room).2 ≤ room
 | [], d, room, h, ht => by rw [rightJs]; exact ⟨h, Int.le_refl _⟩
 | j :: js, d, room, h, ht => by
  rw [rightJs] at ht ⊢
  split at ht
  ·rename_i hc
   rw [if_pos hc]
   have h1 := rightJ_room j d room h hc
   have h2 := rightJs_room js d _ h1.1 ht
   omega
  ·cases ht
end
theorem rightJ_eq (j : J) (d room : Int) : rightJ j d room = if room - 1 < 0 ∨ 12 ≤ d ∨ partJ j = false then (false, room - 1) else rightJs j.items (d + 1) (room - 1) := by
 obtain ⟨k, n, t, ks, its⟩ := j
 rw [rightJ]; rfl
def riStep (L : List J) (d : Int) (i : Nat) (room : Int) : Int ⊕ (Nat × Int) :=
 match rightJ (L.getD i J.zero) (d + 1) room with
 | (true, r) => .inl r
 | (false, r) => .inr (i, r)
theorem riStep_run (L : List J) (d : Int) : ∀ (k i : Nat) (room : Int), i + k = L.length →
  (runN (riStep L d) k i room).elim (fun r => rightJs (L.drop i) (d + 1) room = (true, r)) (fun b => rightJs (L.drop i) (d + 1) room = (false, b.2))
 | 0, i, room, h => by
  rw [runN, List.drop_of_length_le (by omega)]; rfl
 | k + 1, i, room, h => by
  have hd : L.drop i = L.getD i J.zero :: L.drop (i + 1) := by
   rw [List.drop_eq_getElem_cons (by omega), List.getD_eq_getElem?_getD, List.getElem?_eq_getElem (by omega)]; rfl
  rw [runN, hd]
  unfold riStep
  cases hr : rightJ (L.getD i J.zero) (d + 1) room with
  | mk b r =>
   cases b
   ·simp only [Sum.elim_inr, rightJs, hr]; rfl
   ·have ih := riStep_run L d k (i + 1) r (by omega)
    simp only [rightJs, hr, if_true]
    exact ih
def RightOK (d : Nat) : Prop := ∀ (j : J) (room : Int), MJ j → 0 ≤ room → room ≤ 4294967296 → FnOK Tryz.prog fRightIn [.agg (vwJ j), .int .i64 d, .ptr 0 0] [nB room] ⟨.bool (rightJ j d room).1, [nB (rightJ j d room).2], [0]⟩
theorem right1_ok {d : Nat} (hd : d ≤ 1000) (h : RightOK (d + 1)) (j : J) (room : Int) (hj : MJ j) (h1 : 0 ≤ room) (h2 : room ≤ 4294967296) :
  FnOK Tryz.prog fRightIn1 [.agg (vwJ j), .ptr 0 0, .ptr 1 0] [nB d, pB 2, nB room] ⟨.bool (!(rightJ j (d + 1) room).1), [nB d, pB 2, nB (rightJ j (d + 1) room).2], [2]⟩ := by
 refine fnOK_TL (E := ER) follows named (rightIn1T j d room) (by simp) ?_
 simp only [T.WP, All, and_true]
 rintro y rfl
 rw [wrap_succ (by omega), jOf_vw]
 exact ⟨h j room hj h1 h2, ⟨rfl, rfl, by simp⟩⟩
theorem idx_loop {d : Nat} (hd : d ≤ 1000) (h : RightOK (d + 1)) (L : List J) (hL : L.length ≤ 4294967296) (hi : ∀ x ∈ L, MJ x) (room : Int) (h1 : 0 ≤ room) (h2 : room ≤ 4294967296) :
  match runN (riStep L d) L.length 0 room with
  | .inl r => LoopTo Tryz.prog 3 (lp Tryz.prog fIdxJ 0) (stRi L d 0 room) (.exit 0) ⟨mkTm 19 [], [nB d, pB 2, nB r], [2]⟩
  | .inr b => LoopTo Tryz.prog 3 (lp Tryz.prog fIdxJ 0) (stRi L d 0 room) .ret ⟨mkTm 19 [(4, .int .i64 b.1)], [nB d, pB 2, nB b.2], [2]⟩ := by
 have key := roundsT (E := ER) (nf := nfRi) (st := fun i r => stRi L d (i : Nat) r) (n := L.length) (fun _ r => 0 ≤ r ∧ r ≤ 4294967296) (riStep L d)
  (sx := fun r => ⟨mkTm 19 [], [nB d, pB 2, nB r], [2]⟩) (sr := fun b => ⟨mkTm 19 [(4, .int .i64 b.1)], [nB d, pB 2, nB b.2], [2]⟩) (ex := .exit 0) (ex' := .ret)
  follows named (by simp) (by simp) (fun i r => idx0 L d (i : Nat) r) (fun i r hi' hr => ?_) (fun r hr => ?_) L.length 0 room (by simp) ⟨h1, h2⟩
 ·cases hs : runN (riStep L d) L.length 0 room <;> rw [hs] at key
  ·exact key.1
  ·exact key
 ·have hat := vwJ_at L i (by omega)
  have hm : MJ (L.getD i J.zero) := hi _ (by rw [List.getD_eq_getElem?_getD, List.getElem?_eq_getElem hi']; exact List.getElem_mem _)
  simp only [WP_cond, T.WP, All, decide_eq_true_eq, decide_eq_false_iff_not, and_true, Int.toNat_natCast, layJ.decL, wrap_succ (show i < 9223372036854775807 by omega), show J.mk 0 0 [] [] [] = J.zero from rfl]
  refine ⟨fun _ => ⟨⟨by omega, by simpa [vwJ, sls] using hat⟩, ?_⟩, fun h => by omega⟩
  unfold riStep
  rintro y rfl
  rw [jOf_vw]
  have hr2 := rightJ_room (L.getD i J.zero) (d + 1) r hr.1
  refine ⟨right1_ok hd h _ r hm hr.1 hr.2, fun h0 => ?_, fun h0 => ?_⟩
  ·have e : rightJ (L.getD i J.zero) (d + 1) r = (false, (rightJ (L.getD i J.zero) (d + 1) r).2) := Prod.ext (by simpa using h0) rfl
   rw [e]; exact rfl
  ·have e : rightJ (L.getD i J.zero) (d + 1) r = (true, (rightJ (L.getD i J.zero) (d + 1) r).2) := Prod.ext (by simpa using h0) rfl
   have := hr2 (by rw [e])
   rw [e]; exact ⟨rfl, by omega⟩
 ·simp only [WP_cond, T.WP, All, decide_eq_true_eq, decide_eq_false_iff_not, and_true]
  ((repeat' with_reducible first | intro _ | apply And.intro) <;> first | omega | rfl | (exfalso; omega) | (simp; done))
def riIdx : Int ⊕ (Nat × Int) → Int
 | .inl _ => -1
 | .inr b => (b.1 : Nat)
def riRoom : Int ⊕ (Nat × Int) → Int
 | .inl r => r
 | .inr b => b.2
noncomputable def lsRi (L : List J) (d room : Int) : Nat → St → Option LRes := fun id _ => match id with
 | 0 => some ⟨runN (riStep L d) L.length 0 room, fun y => .two { keep := [0, 1, 7, 8], wr := [2] } (stRi L d 0 room) y.isLeft (.exit 0) ⟨mkTm 19 [], [nB d, pB 2, nB (riRoom y)], [2]⟩ .ret ⟨mkTm 19 [(4, .int .i64 (riIdx y))], [nB d, pB 2, nB (riRoom y)], [2]⟩⟩
 | _ => none
set_option maxRecDepth 100000 in
theorem idxT (L : List J) (d room : Int) : fnT { P := Tryz.prog, vw := vwA, res := res0, ls := lsRi L d room } 0 fIdxJ [sls encJ L, .fn fRightIn1 [.ptr 0 0, .ptr 1 0]] [nB d, pB 2, nB room] = (
 .bind (runN (riStep L d) L.length 0 room) fun y0 => .need [St.mk (mkTm 19 [(0, .dsl L.length false (encs encJ L)), (1, .fn 60 [.ptr 0 0, .ptr 1 0]), (7, .int .i64 (↑L.length : Int)), (8, .int .i64 0)]) [nB d, pB 2, nB room] [2] = St.mk
 (mkTm 19 [(0, .dsl L.length false (encs encJ L)), (1, .fn 60 [.ptr 0 0, .ptr 1 0]), (7, .int .i64 (↑L.length : Int)), (8, .int .i64 0)]) [nB d, pB 2, nB room] [2]] (bif Sum.isLeft y0 then .need [SoundC Tryz.prog 3 (blk Tryz.prog fIdxJ 0)
 (St.mk (mkTm 19 [(0, .dsl L.length false (encs encJ L)), (1, .fn 60 [.ptr 0 0, .ptr 1 0]), (7, .int .i64 (↑L.length : Int)), (8, .int .i64 0)]) [nB d, pB 2, nB room] [2]) (Ex.exit 0) (St.mk (mkTm 19 []) [nB d, pB 2, nB (riRoom y0)] [2])]
 (.done (Ret.mk (.int .i64 (-1 : Int)) [nB d, pB 2, nB (riRoom y0)] [2])) else .need [SoundC Tryz.prog 3 (blk Tryz.prog fIdxJ 0) (St.mk (mkTm 19 [(0, .dsl L.length false (encs encJ L)), (1, .fn 60 [.ptr 0 0, .ptr 1 0]), (7, .int .i64
 (↑L.length : Int)), (8, .int .i64 0)]) [nB d, pB 2, nB room] [2]) Ex.ret (St.mk (mkTm 19 [(4, .int .i64 (riIdx y0))]) [nB d, pB 2, nB (riRoom y0)] [2])] (.done (Ret.mk (.int .i64 (riIdx y0)) [nB d, pB 2, nB (riRoom y0)] [2]))) : T _) := (T.force_eq _).symm.trans (by kernel_rfl)
theorem idx_ok {d : Nat} (hd : d ≤ 1000) (h : RightOK (d + 1)) (L : List J) (hL : L.length ≤ 4294967296) (hi : ∀ x ∈ L, MJ x) (room : Int) (h1 : 0 ≤ room) (h2 : room ≤ 4294967296) :
  FnOK Tryz.prog fIdxJ [sls encJ L, .fn fRightIn1 [.ptr 0 0, .ptr 1 0]] [nB d, pB 2, nB room] ⟨.int .i64 (riIdx (runN (riStep L d) L.length 0 room)), [nB d, pB 2, nB (riRoom (runN (riStep L d) L.length 0 room))], [2]⟩ := by
 refine fnOK_TL (E := { P := Tryz.prog, vw := vwA, res := res0, ls := lsRi L d room }) follows named (idxT L d room) (by simp) ?_
 simp only [WP_cond, T.WP, All, and_true]
 have key := idx_loop hd h L hL hi room h1 h2
 rintro y rfl
 cases hs : runN (riStep L d) L.length 0 room <;> rw [hs] at key
 ·exact ⟨trivial, fun _ => ⟨.loopTo key, ⟨rfl, rfl, by simp⟩⟩, fun h => by simp at h⟩
 ·exact ⟨trivial, fun h => by simp at h, fun _ => ⟨.loopTo key, ⟨rfl, rfl, by simp⟩⟩⟩
noncomputable def resIx (L : List J) (d room : Int) : ResT := fun f vs hp => match vs, hp with
 | [.dsl _ _ _, .fn _ _], [some ([.int _ _], _), _, some ([.int _ _], _)] => bif Nat.beq f fIdxJ then some ⟨runN (riStep L d) L.length 0 room, fun y => ⟨.int .i64 (riIdx y), [nB d, pB 2, nB (riRoom y)], [2]⟩⟩ else none
 | _, _ => none
set_option maxRecDepth 100000 in
theorem contT (L : List J) (d room : Int) : fnT { P := Tryz.prog, vw := vwA, res := resIx L d room } 0 fContJ [sls encJ L, .fn fRightIn1 [.ptr 0 0, .ptr 1 0]] [nB d, pB 2, nB room] = (
 .bind (runN (riStep L d) L.length 0 room) fun y0 => .need [FnOK Tryz.prog 91 [.dsl L.length false (encs encJ L), .fn 60 [.ptr 0 0, .ptr 1 0]] [nB d, pB 2, nB room] (Ret.mk (.int .i64 (riIdx y0)) [nB d, pB 2, nB (riRoom y0)] [2])] (.done
 (Ret.mk (.bool (decide (riIdx y0 ≥ 0))) [nB d, pB 2, nB (riRoom y0)] [2])) : T _) := (T.force_eq _).symm.trans (by kernel_rfl)
theorem cont_ok {d : Nat} (hd : d ≤ 1000) (h : RightOK (d + 1)) (L : List J) (hL : L.length ≤ 4294967296) (hi : ∀ x ∈ L, MJ x) (room : Int) (h1 : 0 ≤ room) (h2 : room ≤ 4294967296) :
  FnOK Tryz.prog fContJ [sls encJ L, .fn fRightIn1 [.ptr 0 0, .ptr 1 0]] [nB d, pB 2, nB room] ⟨.bool (!(rightJs L (d + 1) room).1), [nB d, pB 2, nB (rightJs L (d + 1) room).2], [2]⟩ := by
 refine fnOK_TL (E := { P := Tryz.prog, vw := vwA, res := resIx L d room }) follows named (contT L d room) (by simp) ?_
 simp only [T.WP, All, and_true]
 rintro y rfl
 refine ⟨idx_ok hd h L hL hi room h1 h2, ?_⟩
 have hr := riStep_run L d L.length 0 room (by simp)
 rw [List.drop_zero] at hr
 cases hs : runN (riStep L d) L.length 0 room <;> rw [hs] at hr
 ·rw [Sum.elim_inl] at hr; rw [hr]; exact ⟨rfl, rfl, by simp⟩
 ·rw [Sum.elim_inr] at hr; rw [hr]
  refine ⟨congrArg V.bool (show decide _ = true from decide_eq_true ?_), rfl, by simp⟩
  show (0 : Int) ≤ ((_ : Nat) : Int)
  omega
theorem right_ok : ∀ (k d : Nat), d + k = 12 → RightOK d
 | 0, d, hd => by
  intro j room hj h1 h2
  refine fnOK_TL (E := ER) follows named (rightInT j d room) (by simp) ?_
  rw [rightJ_eq, if_pos (.inr (.inl (by omega)))]
  simp only [WP_cond, T.WP, All, decide_eq_true_eq, decide_eq_false_iff_not, and_true, wrap_id (show -9223372036854775808 ≤ room - 1 ∧ room - 1 ≤ 9223372036854775807 by omega)]
  exact ⟨fun _ => ⟨rfl, rfl, by simp⟩, fun _ => ⟨fun _ => ⟨rfl, rfl, by simp⟩, fun h => by omega⟩⟩
 | k + 1, d, hd => by
  have ih := right_ok k (d + 1) (by omega)
  intro j room hj h1 h2
  refine fnOK_TL (E := ER) follows named (rightInT j d room) (by simp) ?_
  rw [rightJ_eq]
  simp only [WP_cond, T.WP, All, decide_eq_true_eq, decide_eq_false_iff_not, and_true, wrap_id (show -9223372036854775808 ≤ room - 1 ∧ room - 1 ≤ 9223372036854775807 by omega), jOf_vw]
  refine ⟨fun h0 => ?_, fun h0 => ⟨fun h => by omega, fun h3 => ?_⟩⟩
  ·rw [if_pos (.inl h0)]; exact ⟨rfl, rfl, by simp⟩
  rintro y rfl
  refine ⟨partOK_ok j hj.mod, fun h4 => ?_, fun h4 => ?_⟩
  ·rw [if_pos (.inr (.inr (by simpa using h4)))]; exact ⟨rfl, rfl, by simp⟩
  ·rw [if_neg (by simp only [not_or]; exact ⟨h0, by omega, by simpa using h4⟩)]
   rintro y rfl
   rw [layJ.decL]
   exact ⟨cont_ok (by omega) ih j.items hj.len hj.item (room - 1) (by omega) (by omega), by rw [Bool.not_not]; exact ⟨rfl, rfl, by simp⟩⟩
noncomputable def resOk : ResT := fun f vs hp => match vs, hp with
 | [.agg [.int _ k, .int _ n, .str t, .dsl _ _ ks, .dsl _ _ its], .int _ d, .ptr 0 0], [some ([.int _ room], _)] => bif Nat.beq f fRightIn then some ⟨rightJ (jOf k n t ks its) d room, fun y => ⟨.bool y.1, [nB y.2], [0]⟩⟩ else none
 | _, _ => none
set_option maxRecDepth 100000 in
theorem jsonOKT (j : J) : fnT { P := Tryz.prog, vw := vwA, res := resOk } 0 fIJsonOK [.agg (vwJ j)] [] = (
 .bind (rightJ (jOf (J.kind j) (J.n j) (J.t j) (encs encStr (J.keys j)) (encs encJ (J.items j))) (0 : Int) (400 : Int)) fun y0 => .need [FnOK Tryz.prog 38 [.agg [.int .i64 (J.kind j), .int .i64 (J.n j), .str (J.t j), .dsl (List.length
 (J.keys j)) false (encs encStr (J.keys j)), .dsl (List.length (J.items j)) false (encs encJ (J.items j))], .int .i64 0, .ptr 0 0] [nB (400 : Int)] (Ret.mk (.bool y0.1) [nB y0.2] [0])] (.done (Ret.mk (.bool y0.1) [] [])) : T _) := (T.force_eq _).symm.trans (by kernel_rfl)
def okJ (j : J) : Bool := (rightJ j 0 400).1
theorem jsonOK_ok (j : J) (hj : MJ j) : FnOK Tryz.prog fIJsonOK [.agg (vwJ j)] [] ⟨.bool (okJ j), [], []⟩ := by
 refine fnOK_TL (E := { P := Tryz.prog, vw := vwA, res := resOk }) follows named (jsonOKT j) (by simp) ?_
 simp only [T.WP, All, and_true, jOf_vw]
 rintro y rfl
 exact ⟨right_ok 12 0 rfl j 400 hj (by omega) (by omega), ⟨rfl, rfl, by simp⟩⟩
end Go.Proofs.YtfncaghjfgnnhaaGreatDoor

namespace Go.Proofs.YtfncaghjfgnnhaaGreatDoor
open Go.RowKit
set_option maxRecDepth 100000
section
variable {P : Program} {I I2 : Nat → Prop} {μ : Mu} {w : World} {hp : Hp}
end
end Go.Proofs.YtfncaghjfgnnhaaGreatDoor

namespace Go.Proofs.YtfncaghjfgnnhaaGreatDoor
open Go.RowKit
set_option maxRecDepth 100000
section
variable {P : Program} {I I1 I2 : Nat → Prop} {μ μ1 μ2 : Mu} {w w1 w2 : World} {hp hp1 hp2 : Hp}
theorem Good.trans {wr1 wr2 wr : List Nat} (G1 : Good P I I1 μ μ1 w w1 hp hp1 (List.range hp.length) wr1) (G2 : Good P I1 I2 μ1 μ2 w1 w2 hp1 hp2 (List.range hp1.length) wr2)
  (hl1 : hp.length ≤ hp1.length) (hl2 : hp1.length ≤ hp2.length) (hw2 : ∀ b ∈ wr2, b < hp.length) (al1 : ∀ b, b < hp.length → Alive hp1 b → Alive hp b) (al2 : ∀ b, b < hp1.length → Alive hp2 b → Alive hp1 b)
  (al3 : ∀ b ∈ wr2, b ∈ wr1 → Alive hp1 b) (h1 : ∀ b ∈ wr1, b ∈ wr) (h2 : ∀ b ∈ wr2, b ∈ wr) : Good P I I2 μ μ2 w w2 hp hp2 (List.range hp.length) wr := by
 have back : ∀ b g, b < hp.length → μ1 b = some g → μ b = some g := by
  intro b g hb hg
  rcases G1.dom b g hg with h | h
  ·exact h
  ·omega
 have backO : ∀ b g, b < hp.length → ∀ blk, hp1[b]? = some (some blk) → μ1.own b g → w.heap.size ≤ g ∨ ∃ c, (c = b ∨ c ∈ wr1) ∧ μ.own c g ∧ ∃ blk, hp[c]? = some (some blk) := by
  intro b g hb blk hblk hg
  by_cases hw : b ∈ wr1
  ·rcases G1.prov b (.inr hw) blk hblk g hg with h | ⟨c, c1, c2⟩
   ·exact .inl h
   ·exact .inr ⟨c, .inr c1, c2⟩
  ·refine .inr ⟨b, .inl rfl, ?_, al1 b hb ⟨blk, hblk⟩⟩
   rcases hg with hg | hg
   ·exact .inl (back b g hb hg)
   ·rw [G1.ftd b hw (by omega)] at hg; exact .inr hg
 have inAll : ∀ (hp : Hp) (b : Nat), b ∈ List.range hp.length ∨ hp.length ≤ b := fun hp b => by rw [List.mem_range]; omega
 have backW : ∀ c k, c ∈ wr2 → ∀ blk, hp1[c]? = some (some blk) → μ1.own c k → w.heap.size ≤ k ∧ k < w2.heap.size ∨ ∃ c ∈ wr, μ.own c k ∧ ∃ blk, hp[c]? = some (some blk) := by
  intro c k c1 blk c3 c2
  have hc := hw2 c c1
  rcases backO c k hc blk c3 c2 with h | ⟨d, d1, d2, d3⟩
  ·exact .inl ⟨h, Nat.lt_of_lt_of_le ((G1.holds c (inAll hp c) blk c3).lt c2) G2.evo.size⟩
  ·refine .inr ⟨d, ?_, d2, d3⟩
   rcases d1 with rfl | d1
   ·exact h2 d c1
   ·exact h1 d d1
 refine ⟨fun k hk => G2.isub k (G1.isub k hk), fun k hk => ?_, ?_, G1.le.trans G2.le, fun b g hg => ?_, fun b hb hn => ?_, fun b hb blk hblk => G2.holds b (inAll hp1 b) blk hblk, fun b hb blk hblk g hg => ?_, fun b c blk blk' g hne hb hc hbb hcc hbg hcg => G2.inj b c blk blk' g hne (inAll hp1 b) (inAll hp1 c) hbb hcc hbg hcg⟩
 ·rcases G2.igrow k hk with h | ⟨h, h'⟩ | ⟨c, c1, c2, ⟨blk, c3⟩⟩
  ·rcases G1.igrow k h with h | ⟨h, h'⟩ | ⟨c, c1, c2, c3⟩
   ·exact .inl h
   ·exact .inr (.inl ⟨h, Nat.lt_of_lt_of_le h' G2.evo.size⟩)
   ·exact .inr (.inr ⟨c, h1 c c1, c2, c3⟩)
  ·exact .inr (.inl ⟨Nat.le_trans G1.evo.size h, h'⟩)
  ·exact .inr (backW c k c1 blk c3 c2)
 ·refine (G1.evo.mono fun k ⟨b, hb, hg⟩ => ⟨b, h1 b hb, hg⟩).trans G2.evo G1.isub fun j hj ⟨b, hb, hg⟩ => ?_
  by_cases hbw : b ∈ wr1
  ·obtain ⟨blk, hblk⟩ := al3 b hb hbw
   rcases backW b j hb blk hblk hg with h | ⟨c, c1, c2, _⟩
   ·omega
   ·exact ⟨c, c1, c2⟩
  ·refine ⟨b, h2 b hb, ?_⟩
   have hbl := hw2 b hb
   rcases hg with hg | hg
   ·exact .inl (back b j hbl hg)
   ·rw [G1.ftd b hbw (by omega)] at hg; exact .inr hg
 ·rcases G2.dom b g hg with h | h
  ·rcases G1.dom b g h with h | h
   ·exact .inl h
   ·exact .inr (by omega)
  ·exact .inr (by omega)
 ·rw [G2.ftd b (fun h => hb (h2 b h)) (fun h => hn (by omega)), G1.ftd b (fun h => hb (h1 b h)) (fun h => hn (by omega))]
 ·by_cases h2w : hp1.length ≤ b ∨ b ∈ wr2
  ·rcases G2.prov b h2w blk hblk g hg with h' | ⟨c, c1, c2, ⟨blk1, c3⟩⟩
   ·exact .inl (Nat.le_trans G1.evo.size h')
   ·exact (backW c g c1 blk1 c3 c2).imp (fun h => h.1) id
  ·simp only [not_or, Nat.not_le] at h2w
   obtain ⟨blk1, hb1⟩ := al2 b h2w.1 ⟨blk, hblk⟩
   have hg1 : μ1.own b g := by
    rcases hg with hg | hg
    ·rcases G2.dom b g hg with h' | h'
     ·exact .inl h'
     ·omega
    ·rw [G2.ftd b h2w.2 (by omega)] at hg; exact .inr hg
   by_cases h1w : hp.length ≤ b ∨ b ∈ wr1
   ·rcases G1.prov b h1w blk1 hb1 g hg1 with h' | ⟨c, c1, c2, c3⟩
    ·exact .inl h'
    ·exact .inr ⟨c, h1 c c1, c2, c3⟩
   ·simp only [not_or, Nat.not_le] at h1w
    rcases backO b g h1w.1 blk1 hb1 hg1 with h | ⟨c, c1, c2, c3⟩
    ·exact .inl h
    ·refine .inr ⟨c, ?_, c2, c3⟩
     rcases c1 with rfl | c1
     ·rcases hb with hb | hb
      ·omega
      ·exact hb
     ·exact h1 c c1
theorem Good.pre {wr : List Nat} (G : Good P I I1 μ μ1 w w1 hp hp1 (List.range hp.length) wr) (hl1 : hp.length ≤ hp1.length) {t0 : Nat} (p0 : Pre P I μ w hp (List.range hp.length) t0) (hdom : ∀ b g, μ b = some g → b < hp.length) (top : Nat) : Pre P I1 μ1 w1 hp1 (List.range hp1.length) top := by
 refine ⟨p0.ilt.step G.evo G.isub fun k hk => ?_, fun b hb blk h => ?_, fun b hb c hc blk blk' g hne h1 h2 h3 h4 => ?_, fun b hb _ => ?_⟩
 ·rcases G.igrow k hk with h | ⟨_, h⟩ | ⟨c, c1, c2, ⟨blk, c3⟩⟩
  ·exact Nat.lt_of_lt_of_le (p0.ilt k h) G.evo.size
  ·exact h
  ·exact Nat.lt_of_lt_of_le ((p0.holds c (by simpa using at_lt c3) _ c3).lt c2) G.evo.size
 ·refine G.holds b ?_ blk h
  by_cases h : b < hp.length
  ·exact .inl (by simpa using h)
  ·exact .inr (by omega)
 ·have key : ∀ b : Nat, b ∈ List.range hp.length ∨ hp.length ≤ b := by
   intro b
   by_cases h : b < hp.length
   ·exact .inl (by simpa using h)
   ·exact .inr (by omega)
  exact G.inj b c blk blk' g hne (key b) (key c) h1 h2 h3 h4
 ·cases hμ : μ1 b with
  | none => rfl
  | some g =>
   rcases G.dom b g hμ with h | h
   ·have := hdom b g h; omega
   ·omega
theorem Good.trans2 {wr1 wr2 wr : List Nat} (G1 : Good P I I1 μ μ1 w w1 hp hp1 (List.range hp.length) wr1) (G2 : Good P I1 I2 μ1 μ2 w1 w2 hp1 hp2 (List.range hp1.length) wr2)
  (hl1 : hp.length ≤ hp1.length) (hl2 : hp1.length ≤ hp2.length) (hw2 : ∀ b ∈ wr2, b < hp1.length) (al1 : ∀ b, b < hp.length → Alive hp1 b → Alive hp b) (al2 : ∀ b, b < hp1.length → Alive hp2 b → Alive hp1 b)
  (al3 : ∀ b ∈ wr2, b ∈ wr1 ∨ hp.length ≤ b → Alive hp1 b) (h1 : ∀ b ∈ wr1, b ∈ wr) (h2 : ∀ b ∈ wr2, b < hp.length → b ∈ wr) (_ : ∀ b ∈ wr, b ∈ wr1 ∨ b ∈ wr2) (_ : ∀ b g, μ b = some g → b < hp.length) : Good P I I2 μ μ2 w w2 hp hp2 (List.range hp.length) wr := by
 have back : ∀ b g, b < hp.length → μ1 b = some g → μ b = some g := by
  intro b g hb hg
  rcases G1.dom b g hg with h | h
  ·exact h
  ·omega
 have backO : ∀ b g, (∃ blk, hp1[b]? = some (some blk)) → μ1.own b g → w.heap.size ≤ g ∨ ∃ c, (c = b ∨ c ∈ wr1) ∧ c < hp.length + 1 ∧ μ.own c g ∧ (c < hp.length → ∃ blk, hp[c]? = some (some blk)) ∧ (c = b → b < hp.length) ∧ ∃ blk, hp[c]? = some (some blk) := by
  rintro b g ⟨blk, hblk⟩ hg
  have fin : ∀ c, (c = b ∨ c ∈ wr1) → μ.own c g → (c = b → b < hp.length) → (∃ blk, hp[c]? = some (some blk)) → ∃ c, (c = b ∨ c ∈ wr1) ∧ c < hp.length + 1 ∧ μ.own c g ∧ (c < hp.length → ∃ blk, hp[c]? = some (some blk)) ∧ (c = b → b < hp.length) ∧ ∃ blk, hp[c]? = some (some blk) := by
   intro c q1 q2 q3 q4
   refine ⟨c, q1, ?_, q2, fun _ => q4, q3, q4⟩
   obtain ⟨blk, q4⟩ := q4
   have := at_lt q4; omega
  by_cases hb : b < hp.length
  ·by_cases hw : b ∈ wr1
   ·rcases G1.prov b (.inr hw) blk hblk g hg with h | ⟨c, c1, c2, c3⟩
    ·exact .inl h
    ·exact .inr (fin c (.inr c1) c2 (fun _ => hb) c3)
   ·refine .inr (fin b (.inl rfl) ?_ (fun _ => hb) (al1 b hb ⟨blk, hblk⟩))
    rcases hg with hg | hg
    ·exact .inl (back b g hb hg)
    ·rw [G1.ftd b hw (by omega)] at hg; exact .inr hg
  ·rcases G1.prov b (.inl (by omega)) blk hblk g hg with h | ⟨c, c1, c2, c3⟩
   ·exact .inl h
   ·refine .inr (fin c (.inr c1) c2 (fun e => ?_) c3)
    obtain ⟨blk, c3⟩ := c3
    rw [← e]; exact at_lt c3
 have inAll : ∀ (hp : Hp) (b : Nat), b ∈ List.range hp.length ∨ hp.length ≤ b := fun hp b => by rw [List.mem_range]; omega
 have backW : ∀ c k, c ∈ wr2 → (∃ blk, hp1[c]? = some (some blk)) → μ1.own c k → w.heap.size ≤ k ∧ k < w2.heap.size ∨ ∃ c ∈ wr, μ.own c k ∧ ∃ blk, hp[c]? = some (some blk) := by
  rintro c k c1 ⟨blk, c3⟩ c2
  rcases backO c k ⟨blk, c3⟩ c2 with h | ⟨d, d1, _, d2, _, d5, d3⟩
  ·exact .inl ⟨h, Nat.lt_of_lt_of_le ((G1.holds c (inAll hp c) blk c3).lt c2) G2.evo.size⟩
  ·refine .inr ⟨d, ?_, d2, d3⟩
   rcases d1 with rfl | d1
   ·exact h2 d c1 (d5 rfl)
   ·exact h1 d d1
 refine ⟨fun k hk => G2.isub k (G1.isub k hk), fun k hk => ?_, ?_, G1.le.trans G2.le, fun b g hg => ?_, fun b hb hn => ?_, fun b hb blk hblk => G2.holds b (inAll hp1 b) blk hblk, fun b hb blk hblk g hg => ?_, fun b c blk blk' g hne hb hc hbb hcc hbg hcg => G2.inj b c blk blk' g hne (inAll hp1 b) (inAll hp1 c) hbb hcc hbg hcg⟩
 ·rcases G2.igrow k hk with h | ⟨h, h'⟩ | ⟨c, c1, c2, c3⟩
  ·rcases G1.igrow k h with h | ⟨h, h'⟩ | ⟨c, c1, c2, c3⟩
   ·exact .inl h
   ·exact .inr (.inl ⟨h, Nat.lt_of_lt_of_le h' G2.evo.size⟩)
   ·exact .inr (.inr ⟨c, h1 c c1, c2, c3⟩)
  ·exact .inr (.inl ⟨Nat.le_trans G1.evo.size h, h'⟩)
  ·exact .inr (backW c k c1 c3 c2)
 ·refine (G1.evo.mono fun k ⟨b, hb, hg⟩ => ⟨b, h1 b hb, hg⟩).trans G2.evo G1.isub fun j hj ⟨b, hb, hg⟩ => ?_
  by_cases hq : b ∈ wr1 ∨ hp.length ≤ b
  ·rcases backW b j hb (al3 b hb hq) hg with h | ⟨c, c1, c2, _⟩
   ·omega
   ·exact ⟨c, c1, c2⟩
  ·simp only [not_or, Nat.not_le] at hq
   refine ⟨b, h2 b hb hq.2, ?_⟩
   rcases hg with hg | hg
   ·exact .inl (back b j hq.2 hg)
   ·rw [G1.ftd b hq.1 (by omega)] at hg; exact .inr hg
 ·rcases G2.dom b g hg with h | h
  ·rcases G1.dom b g h with h | h
   ·exact .inl h
   ·exact .inr (by omega)
  ·exact .inr (by omega)
 ·have hb2 : b ∉ wr2 := by
   intro h
   rcases Nat.lt_or_ge b hp.length with h' | h'
   ·exact hb (h2 b h h')
   ·have := hw2 b h; omega
  rw [G2.ftd b hb2 (fun h => hn (by omega)), G1.ftd b (fun h => hb (h1 b h)) (fun h => hn (by omega))]
 ·by_cases h2w : hp1.length ≤ b ∨ b ∈ wr2
  ·rcases G2.prov b h2w blk hblk g hg with h' | ⟨c, c1, c2, c3⟩
   ·exact .inl (Nat.le_trans G1.evo.size h')
   ·exact (backW c g c1 c3 c2).imp (fun h => h.1) id
  ·simp only [not_or, Nat.not_le] at h2w
   obtain ⟨blk1, hb1⟩ := al2 b h2w.1 ⟨blk, hblk⟩
   have hg1 : μ1.own b g := by
    rcases hg with hg | hg
    ·rcases G2.dom b g hg with h' | h'
     ·exact .inl h'
     ·omega
    ·rw [G2.ftd b h2w.2 (by omega)] at hg; exact .inr hg
   rcases backO b g ⟨blk1, hb1⟩ hg1 with h | ⟨c, c1, _, c2, _, c5, c3⟩
   ·exact .inl h
   ·refine .inr ⟨c, ?_, c2, c3⟩
    rcases c1 with rfl | c1
    ·rcases hb with hb | hb
     ·have := c5 rfl; omega
     ·exact hb
    ·exact h1 c c1
end
theorem FnOK.prepOut {P : Program} {f : FuncId} {vs : List V} {hp hp1 hp2 : Hp} {v : V} {wr bs : List Nat} (h : FnOK P f vs hp ⟨v, hp1, wr⟩) (p : PrepOK P hp1 hp2 bs) :
  FnOK P f vs hp ⟨v, hp2, wr ++ lows hp bs⟩ := by
 obtain ⟨ht, hmain⟩ := h
 have t := p.tidy
 have al2 : ∀ b, b < hp1.length → Alive hp2 b → Alive hp1 b := fun b hb ⟨blk, hal⟩ => by
  by_cases hbs : b ∈ bs
  ·exact t.walive b hbs
  ·exact ⟨blk, by rw [← t.frame b hb hbs]; exact hal⟩
 have hl1 : hp.length ≤ hp1.length := ht.len
 refine ⟨⟨Nat.le_trans ht.len t.len, fun b hb hn => ?_, fun b hb => ?_, fun b hb hal => ht.alive b hb (al2 b (Nat.lt_of_lt_of_le hb hl1) hal)⟩, fun I w μ vals hv pre hdom => ?_⟩
 ·simp only [List.mem_append, not_or, mem_lows] at hn
  show hp2[b]? = _
  rw [t.frame b (Nat.lt_of_lt_of_le hb hl1) (fun h => hn.2 ⟨h, hb⟩)]
  exact ht.frame b hb hn.1
 ·rcases List.mem_append.1 hb with hb | hb
  ·exact ht.wrb b hb
  ·exact (mem_lows.1 hb).2
 ·have pre1 : Pre P I μ w hp (List.range hp.length) hp1.length := pre.top t.len
  refine (hmain I w μ vals hv pre1 hdom).mono fun e w' ⟨val, μ', I', he, hR, G⟩ => ?_
  have pre2 := G.pre hl1 pre1 hdom hp2.length
  obtain ⟨μ2, G2⟩ := p.run pre2 (fun b hb => by simpa using t.accb b hb)
  refine ⟨val, μ2, I', he, hR.keep (.refl w' (fun _ => False)) (.refl _) G2.le, ?_⟩
  exact G.trans2 G2 hl1 t.len t.accb ht.alive al2 (fun b hb _ => t.walive b hb) (fun b hb => by simp [hb]) (fun b hb hl => by simp [mem_lows, hb, hl]) (fun b hb => by
   rcases List.mem_append.1 hb with hb | hb
   ·exact .inl hb
   ·exact .inr (mem_lows.1 hb).1) hdom
theorem FnOK.prepIn {P : Program} {f : FuncId} {vs : List V} {hp hp1 : Hp} {r : Ret} {bs : List Nat} (p : PrepOK P hp hp1 bs) (h : FnOK P f vs hp1 r) (hal : ∀ b ∈ r.wr, b ∈ bs ∨ hp.length ≤ b → Alive hp1 b) :
  FnOK P f vs hp ⟨r.v, r.hp, lows hp (bs ++ r.wr)⟩ := by
 obtain ⟨ht, hmain⟩ := h
 have t := p.tidy
 have al2 : ∀ b, b < hp.length → Alive hp1 b → Alive hp b := fun b hb ⟨blk, hal⟩ => by
  by_cases hbs : b ∈ bs
  ·exact t.walive b hbs
  ·exact ⟨blk, by rw [← t.frame b hb hbs]; exact hal⟩
 refine ⟨⟨Nat.le_trans t.len ht.len, fun b hb hn => ?_, fun b hb => (mem_lows.1 hb).2, fun b hb hal => al2 b hb (ht.alive b (Nat.lt_of_lt_of_le hb t.len) hal)⟩, fun I w μ vals hv pre hdom => ?_⟩
 ·have h1 : b ∉ bs := fun h1 => hn (mem_lows.2 ⟨by simp [h1], hb⟩)
  have h2 : b ∉ r.wr := fun h1 => hn (mem_lows.2 ⟨by simp [h1], hb⟩)
  show r.hp[b]? = _
  rw [ht.frame b (Nat.lt_of_lt_of_le hb t.len) h2, t.frame b hb h1]
 ·obtain ⟨μ1, G1⟩ := p.run (acc := List.range hp.length) (pre.top ht.len) (fun b hb => by simpa using t.accb b hb)
  have dom1 : ∀ b g, μ1 b = some g → b < hp1.length := fun b g hg => by
   rcases G1.dom b g hg with h | h
   ·exact Nat.lt_of_lt_of_le (hdom b g h) t.len
   ·exact h.2
  have pre1 := G1.pre t.len pre hdom r.hp.length
  refine (hmain I w μ1 vals (hv.keep (.refl w (fun _ => False)) (.refl _) G1.le) pre1 dom1).mono fun e w' ⟨val, μ', I', he, hR, G⟩ => ⟨val, μ', I', he, hR, ?_⟩
  have hwl : ∀ b ∈ r.wr, b < hp1.length := ht.wrb
  exact G1.trans2 G t.len ht.len hwl al2 ht.alive hal (fun b hb => mem_lows.2 ⟨by simp [hb], t.accb b hb⟩) (fun b hb hl => mem_lows.2 ⟨by simp [hb], hl⟩) (fun b hb => by
    rcases List.mem_append.1 (mem_lows.1 hb).1 with hb | hb
    ·exact .inl hb
    ·exact .inr hb) hdom
end Go.Proofs.YtfncaghjfgnnhaaGreatDoor

namespace Go.Proofs.YtfncaghjfgnnhaaGreatDoor
open Go.RowKit
set_option maxRecDepth 100000
structure RS where
 s : List UInt8
 bad : Bool
 room : Int
def RS.tk (r : RS) (p : List UInt8) : Bool × RS := (tkB p r.s r.bad, ⟨tkS p r.s r.bad, r.bad, r.room⟩)
def RS.want (r : RS) (p : List UInt8) : RS := ⟨tkS p r.s r.bad, !tkB p r.s r.bad, r.room⟩
def partsL {α : Type} (e : List UInt8) (f : RS → α → RS × α) : Nat → RS → α → RS × α
 | 0, r, a => (r, a)
 | n + 1, r, a => bif r.bad then (r, a) else
  bif ((f r a).1.tk e).1 then (((f r a).1.tk e).2, (f r a).2) else partsL e f n (((f r a).1.tk e).2.want [44]) (f r a).2
def partsE {α : Type} (e : List UInt8) (f : RS → α → RS × α) (r : RS) (a : α) : RS × α :=
 bif (r.tk e).1 then ((r.tk e).2, a) else partsL e f ((r.tk e).2.s.length + 2) (r.tk e).2 a
def kvGet (k : List UInt8) : List (List UInt8 × J) → Option J
 | [] => none
 | (k', j) :: m => if k == k' then some j else kvGet k m
def kvPut (k : List UInt8) (j : J) : List (List UInt8 × J) → List (List UInt8 × J)
 | [] => [(k, j)]
 | (k', j') :: m => if k == k' then (k, j) :: m else (k', j') :: kvPut k j m
def srt (ks : List (List UInt8)) : List (List UInt8) := ks.mergeSort fun x y => decide (x ≤ y)
def wNull : List UInt8 := [110, 117, 108, 108]
def wTrue : List UInt8 := [116, 114, 117, 101]
def wFalse : List UInt8 := [102, 97, 108, 115, 101]
structure KM where
 ks : List (List UInt8)
 m : List (List UInt8 × J)
def objStep (val : RS → J × RS) (r : RS) (a : KM) : RS × KM :=
 let r1 := r.want [34]
 let x := txtE r1.bad r1.s
 let r2 := (RS.mk x.2.2 x.2.1 r1.room).want [58]
 let v := val r2
 (⟨v.2.s, v.2.bad || (kvGet x.1 a.m).isSome, v.2.room⟩, ⟨a.ks ++ [x.1], kvPut x.1 v.1 a.m⟩)
def listStep (val : RS → J × RS) (r : RS) (L : List J) : RS × List J := ((val r).2, L ++ [(val r).1])
def objJ (a : KM) : J := .mk 5 0 [] (srt a.ks) ((srt a.ks).map fun k => (kvGet k a.m).getD J.zero)
def iVal : Nat → RS → J × RS
 | 0, r => (J.zero, ⟨skp r.s, true, r.room - 1⟩)
 | k + 1, r =>
  let s := skp r.s
  bif r.bad || decide (r.room - 1 < 0) || s.isEmpty then (J.zero, ⟨s, true, r.room - 1⟩)
  else bif pfx wNull s then (J.zero, ⟨s.drop 4, false, r.room - 1⟩)
  else bif pfx wTrue s then (.mk 1 1 [] [] [], ⟨s.drop 4, false, r.room - 1⟩)
  else bif pfx wFalse s then (.mk 1 0 [] [] [], ⟨s.drop 5, false, r.room - 1⟩)
  else bif pfx [34] s then (.mk 3 0 (txtE false (s.drop 1)).1 [] [], ⟨(txtE false (s.drop 1)).2.2, (txtE false (s.drop 1)).2.1, r.room - 1⟩)
  else bif pfx [91] s then
   let y := partsE [93] (listStep (iVal k)) ⟨s.drop 1, false, r.room - 1⟩ []
   (.mk 4 0 [] [] y.2, y.1)
  else bif pfx [123] s then
   let y := partsE [125] (objStep (iVal k)) ⟨s.drop 1, false, r.room - 1⟩ ⟨[], []⟩
   (objJ y.2, y.1)
  else (nmJ s, ⟨s.dropWhile nmC, nmB false s, r.room - 1⟩)
abbrev fVal : Nat := 47
abbrev fVal1 : Nat := 76
abbrev fParts : Nat := 75
abbrev fObj : Nat := 77
abbrev fObj1 : Nat := 98
abbrev tPRd : Nat := 62
def rsB (t : List UInt8) (r : RS) : Option Blk := rdI t (pos' t r.s : Nat) r.bad r.room
def lsB (L : List J) : Option Blk := some ([.int .i64 4, .int .i64 0, .str [], .osl 9 0 false [], .osl tJ L.length false (encs encJ L)], tJ)
def prB (b : Nat) : Option Blk := some ([.ptr b 0], tPRd)
def dpB (d : Int) : Option Blk := some ([.int .i64 d], tInt)
noncomputable def resV1 (val : RS → J × RS) : ResT := fun f vs hp => match vs, hp with
 | [.ptr 0 0, .int _ _], [some ([.str t, .int _ i, .bool bad, .int _ room], _)] => bif Nat.beq f fVal then some ⟨val ⟨t.drop i.toNat, bad, room⟩, fun y => ⟨.agg (vwJ y.1), [rsB t y.2], [0]⟩⟩ else none
 | _, _ => none
--FOLD vwJ
set_option maxRecDepth 100000 in
theorem val1T (val : RS → J × RS) (t : List UInt8) (L : List J) (d i : Int) (bad : Bool) (room : Int) : fnT { P := Tryz.prog, vw := vwA, res := resV1 val } 2 fVal1 [.ptr 0 0, .ptr 1 0, .ptr 2 0] [lsB L, prB 3, dpB d, rdI t i bad room] = (
 .bind (val (RS.mk (List.drop (Int.toNat i) t) bad room)) fun y0 => .need [FnOK Tryz.prog 47 [.ptr 0 0, .int .i64 (IntKind.wrap IntKind.i64 (d + 1))] [some ([.str t, .int .i64 i, .bool bad, .int .i64 room], 64)] (Ret.mk (.agg (vwJ y0.1))
 [some ([.str t, .int .i64 (↑(pos' t (RS.s y0.2)) : Int), .bool (RS.bad y0.2), .int .i64 (RS.room y0.2)], 64)] [0])] (.need [0 = 0, List.length (encs encJ L) = L.length * 5, L.length + 1 ≤ 9223372036854775807, (L.length + 1) * 80 ≤
 140737488355328] (.need [(0 : Int) ≤ (↑L.length : Int) ∧ (↑L.length : Int) < (↑(L.length + 1) : Int)] (.need [List.length (encs encJ L) = 0 + Int.toNat (↑L.length : Int) * 5] (.done (Ret.mk (.tup []) [some ([.int .i64 4, .int .i64 0, .str
 [], .osl 9 0 false [], .sl 4 0 (L.length + 1) false], 25), some ([.ptr 3 0], 62), some ([.int .i64 d], 3), some ([.str t, .int .i64 (↑(pos' t (RS.s y0.2)) : Int), .bool (RS.bad y0.2), .int .i64 (RS.room y0.2)], 64), some ([.sld (encs encJ L
 ++ [.int .i64 (J.kind y0.1), .int .i64 (J.n y0.1), .str (J.t y0.1), .dsl (List.length (J.keys y0.1)) false (encs encStr (J.keys y0.1)), .dsl (List.length (J.items y0.1)) false (encs encJ (J.items y0.1))])], 25)] [0, 3]))))) : T _) := (T.force_eq _).symm.trans (by kernel_rfl)
structure ROut (r r' : RS) : Prop where
 suf : r'.s <:+ r.s
 lo : r.room - 1 ≤ r'.room + 2 * ((r.s.length : Int) - r'.s.length)
 hi : r'.room ≤ r.room
structure RIn (t : List UInt8) (r : RS) : Prop where
 suf : r.s <:+ t
 lo : 0 ≤ r.room + 2 * ((t.length : Int) - r.s.length)
 hi : r.room ≤ 400
theorem ROut.refl (r : RS) : ROut r r := ⟨List.suffix_refl _, by omega, Int.le_refl _⟩
theorem tkB_len {p s : List UInt8} {bad : Bool} (h : tkB p s bad = true) : (tkS p s bad).length + p.length ≤ s.length ∧ bad = false := by
 have h1 : bad = false := by cases bad; rfl; simp [tkB] at h
 have h2 : pfx p (skp s) = true := by unfold tkB at h; rw [h1] at h; simpa using h
 have h3 := pfx_len h2
 have h4 : (skp s).length ≤ s.length := (List.dropWhile_suffix _).length_le
 refine ⟨?_, h1⟩
 unfold tkS; rw [if_pos h, List.length_drop]; omega
theorem tkS_suf' (p s : List UInt8) (bad : Bool) : tkS p s bad <:+ s := tkS_suf (List.suffix_refl s)
theorem tk_suf (r : RS) (p : List UInt8) : (r.tk p).2.s <:+ r.s := tkS_suf' ..
theorem want_suf (r : RS) (p : List UInt8) : (r.want p).s <:+ r.s := tkS_suf' ..
theorem want_on (r : RS) (p : List UInt8) : (r.want p).bad = true ∨ ((r.want p).s.length + p.length ≤ r.s.length ∧ r.bad = false) := by
 unfold RS.want
 cases h : tkB p r.s r.bad with
 | false => exact .inl rfl
 | true => exact .inr (tkB_len h)
theorem ROut.more {r r' r'' : RS} (h : ROut r r') (hs : r''.s <:+ r'.s) (hr : r''.room = r'.room) : ROut r r'' := by
 have := hs.length_le
 exact ⟨hs.trans h.suf, by have := h.lo; rw [hr]; omega, by rw [hr]; exact h.hi⟩
theorem partsL_out {α : Type} {e : List UInt8} {f : RS → α → RS × α} (hf : ∀ r a, ROut r (f r a).1) : ∀ (n : Nat) (r : RS) (a : α), ROut r (partsL e f n r a).1
 | 0, r, a => ROut.refl r
 | n + 1, r, a => by
  unfold partsL
  cases hb : r.bad with
  | true => exact ROut.refl r
  | false =>
   have h1 := hf r a
   have h2 := h1.more (tk_suf _ e) rfl
   cases ht : ((f r a).1.tk e).1 with
   | true => exact h2
   | false =>
    have ih := partsL_out (e := e) hf n (((f r a).1.tk e).2.want [44]) (f r a).2
    have h3 := h2.more (want_suf _ [44]) rfl
    show ROut r (partsL e f n (((f r a).1.tk e).2.want [44]) (f r a).2).1
    rcases want_on ((f r a).1.tk e).2 [44] with h4 | ⟨h4, _⟩
    ·generalize ((f r a).1.tk e).2.want [44] = r3 at *
     cases n with
     | zero => exact h3
     | succ n =>
      unfold partsL
      rw [h4]; exact h3
    ·generalize hr3 : ((f r a).1.tk e).2.want [44] = r3 at *
     have e3 : r3.room = (f r a).1.room := by rw [← hr3]; rfl
     have l1 := (tk_suf (f r a).1 e).length_le
     have l2 := h1.suf.length_le
     simp only [List.length_singleton] at h4
     refine ⟨ih.suf.trans h3.suf, ?_, by have := ih.hi; have := h3.hi; omega⟩
     have a1 := ih.lo
     have a2 := h1.lo
     omega
theorem partsE_out {α : Type} {e : List UInt8} {f : RS → α → RS × α} (hf : ∀ r a, ROut r (f r a).1) (r : RS) (a : α) : ROut r (partsE e f r a).1 := by
 unfold partsE
 have h1 := (ROut.refl r).more (tk_suf r e) rfl
 cases (r.tk e).1 with
 | true => exact h1
 | false =>
  have h2 := partsL_out (e := e) hf ((r.tk e).2.s.length + 2) (r.tk e).2 a
  have := (tk_suf r e).length_le
  have e3 : (r.tk e).2.room = r.room := rfl
  refine ⟨h2.suf.trans (tk_suf r e), ?_, by have := h2.hi; rw [e3] at this; exact this⟩
  have := h2.lo
  rw [e3] at this
  simp only [cond_false]
  omega
structure ValOK (t : List UInt8) (d : Int) (val : RS → J × RS) : Prop where
 run : ∀ r, RIn t r → FnOK Tryz.prog fVal [.ptr 0 0, .int .i64 d] [rsB t r] ⟨.agg (vwJ (val r).1), [rsB t (val r).2], [0]⟩
 out : ∀ r, ROut r (val r).2
theorem rs_eta {t : List UInt8} {r : RS} (h : r.s <:+ t) : RS.mk (t.drop ((pos' t r.s : Nat) : Int).toNat) r.bad r.room = r := by rw [Int.toNat_natCast, drop_pos h]
theorem val1_ok {t : List UInt8} {d : Int} {val : RS → J × RS} (hV : ValOK t (d + 1) val) (hd : 0 ≤ d ∧ d ≤ 1000) (r : RS) (hr : RIn t r) (L : List J) (hL : L.length ≤ 1048576) :
  FnOK Tryz.prog fVal1 [.ptr 0 0, .ptr 1 0, .ptr 2 0] [lsB L, prB 3, dpB d, rsB t r] ⟨.tup [], [lsB (listStep val r L).2, prB 3, dpB d, rsB t (listStep val r L).1, none], [0, 3]⟩ := by
 have h1 : FnOK Tryz.prog fVal1 [.ptr 0 0, .ptr 1 0, .ptr 2 0] [lsB L, prB 3, dpB d, rsB t r] ⟨.tup [], [some ([.int .i64 4, .int .i64 0, .str [], .osl 9 0 false []] ++ .sl 4 0 (L.length + 1) false :: [], tJ), prB 3, dpB d, rsB t (val r).2, some ([.sld (encs encJ (L ++ [(val r).1]))], tJ)], [0, 3]⟩ := by
  refine fnOK_TL (E := { P := Tryz.prog, vw := vwA, res := resV1 val }) follows named (val1T val t L d (pos' t r.s : Nat) r.bad r.room) (by simp) ?_
  simp only [T.WP, All, and_true, rs_eta hr.suf]
  rintro y rfl
  have hw : IntKind.i64.wrap (d + 1) = d + 1 := wrap_id (by omega)
  have hl := layJ.length L
  rw [hw]
  refine ⟨hV.run r hr, ⟨trivial, hl, by omega, by omega⟩, by omega, by rw [hl]; omega, ?_⟩
  refine ⟨rfl, ?_, by simp⟩
  rw [encs_snoc, encJ_vw]
  rfl
 have h2 := h1.prepOut (prepPack (b := 0) (c := 4) (pr := [.int .i64 4, .int .i64 0, .str [], .osl 9 0 false []]) (po := []) (by decide) rfl rfl rfl)
 have h3 := h2.more (wr := [0, 3]) (by simp [mem_lows]) (by simp)
 have e : lsB (listStep val r L).2 = some ([.int .i64 4, .int .i64 0, .str [], .osl 9 0 false []] ++ .osl tJ (L.length + 1) (hasO [.sld (encs encJ (L ++ [(val r).1]))]) (flat [.sld (encs encJ (L ++ [(val r).1]))]) :: [], tJ) := by
  simp [lsB, listStep, flat, hasO]
 rw [e]
 exact h3
end Go.Proofs.YtfncaghjfgnnhaaGreatDoor

namespace Go.Proofs.YtfncaghjfgnnhaaGreatDoor
open Go.RowKit
set_option maxRecDepth 100000
abbrev fSVal : Nat := 45
abbrev fSLst : Nat := 70
abbrev fSObj : Nat := 71
def SS.tk (b : UInt8) (x : SS) : Bool × SS := (hdB b x.s, ⟨hdS b x.s, x.n, x.ok⟩)
def SS.nd (b : UInt8) (x : SS) : SS := ⟨hdS b x.s, x.n, hdB b x.s && x.ok⟩
def sLst (f : SS → J × SS) : Nat → SS → List J → SS × List J
 | 0, x, L => (x, L)
 | n + 1, x, L => bif x.ok then (bif (x.tk 93).1 then ((x.tk 93).2, L) else
   let x2 := bif L.isEmpty then (x.tk 93).2 else (x.tk 93).2.nd 44
   sLst f n (f x2).2 (L ++ [(f x2).1])) else (x, L)
structure KL where
 ks : List (List UInt8)
 its : List J
def kPos (key : List UInt8) : List (List UInt8) → Nat
 | [] => 0
 | k :: ks => bif Op.bytesLess k key then kPos key ks + 1 else 0
def kIns (key : List UInt8) (v : J) (a : KL) : KL := ⟨a.ks.take (kPos key a.ks) ++ key :: a.ks.drop (kPos key a.ks), a.its.take (kPos key a.ks) ++ v :: a.its.drop (kPos key a.ks)⟩
def kDup (key : List UInt8) (ks : List (List UInt8)) : Bool := decide (kPos key ks < ks.length) && (ks.getD (kPos key ks) [] == key)
def sField (f : SS → J × SS) (x : SS) (a : KL) : SS × KL :=
 let x1 := x.nd 34
 let y := stxE x1.ok x1.s
 let x2 := (SS.mk y.2.2 x1.n y.2.1).nd 58
 let v := f x2
 (⟨v.2.s, v.2.n, v.2.ok && !kDup y.1 a.ks⟩, kIns y.1 v.1 a)
def sObj (f : SS → J × SS) : Nat → SS → KL → SS × KL
 | 0, x, a => (x, a)
 | n + 1, x, a => bif x.ok then (bif (x.tk 125).1 then ((x.tk 125).2, a) else
   let x2 := bif a.its.isEmpty then (x.tk 125).2 else (x.tk 125).2.nd 44
   sObj f n (sField f x2 a).1 (sField f x2 a).2) else (x, a)
def sVal : Nat → SS → J × SS
 | 0, x => (J.zero, ⟨skp x.s, x.n + 1, false⟩)
 | k + 1, x =>
  let s := skp x.s
  bif !x.ok || decide (400 < x.n + 1) || s.isEmpty then (J.zero, ⟨s, x.n + 1, false⟩)
  else bif pfx wNull s then (J.zero, ⟨s.drop 4, x.n + 1, true⟩)
  else bif pfx wTrue s then (.mk 1 1 [] [] [], ⟨s.drop 4, x.n + 1, true⟩)
  else bif pfx wFalse s then (.mk 1 0 [] [] [], ⟨s.drop 5, x.n + 1, true⟩)
  else bif hdB 34 s then (.mk 3 0 (stxE true (s.drop 1)).1 [] [], ⟨(stxE true (s.drop 1)).2.2, x.n + 1, (stxE true (s.drop 1)).2.1⟩)
  else bif hdB 91 s then
   let y := sLst (sVal k) (s.length + 2) ⟨s.drop 1, x.n + 1, true⟩ []
   (.mk 4 0 [] [] y.2, y.1)
  else bif hdB 123 s then
   let y := sObj (sVal k) (s.length + 2) ⟨s.drop 1, x.n + 1, true⟩ ⟨[], []⟩
   (.mk 5 0 [] y.2.ks y.2.its, y.1)
  else (.mk 2 (snV s).1 [] [] [], ⟨snR s, x.n + 1, (snV s).2⟩)
noncomputable def resSV (val : SS → J × SS) : ResT := fun f vs hp => match vs, hp with
 | [.ptr 0 0, .int _ b], [some ([.str t, .int _ i, .int _ n, .bool ok], _)] =>
  bif Nat.beq f fSVal then some ⟨val ⟨t.drop i.toNat, n, ok⟩, fun y => ⟨.agg (vwJ y.1), [ssB t y.2], [0]⟩⟩
  else bif Nat.beq f fSTake then some ⟨(SS.mk (t.drop i.toNat) n ok).tk (UInt8.ofNat b.toNat), fun y => ⟨.bool y.1, [ssB t y.2], [0]⟩⟩
  else bif Nat.beq f fSNeed then some ⟨(SS.mk (t.drop i.toNat) n ok).nd (UInt8.ofNat b.toNat), fun y => ⟨.tup [], [ssB t y], [0]⟩⟩
  else none
 | [.ptr 0 0], [some ([.str _, .int _ _, .int _ _, .bool _], _)] => bif Nat.beq f fSText then none else none
 | _, _ => none
noncomputable def ESV (val : SS → J × SS) : Env := { P := Tryz.prog, vw := vwA, res := resSV val }
def nL4 (x : V) : Option Blk := some ([.int .i64 4, .int .i64 0, .str [], .dsl 0 true [], x], tJ)
def stSL0 (t : List UInt8) (i n : Int) (ok : Bool) (d : Int) : St := ⟨mkTm 32 [(0, .ptr 0 0), (1, .int .i64 d), (4, .ptr 1 0), (5, .ptr 2 0)], [sdI t i n ok, zJ, nL4 (.dsl 0 true [])], [0]⟩
def stSL1 (t : List UInt8) (i n : Int) (ok : Bool) (d : Int) (L : List J) : St := ⟨mkTm 32 [(0, .ptr 0 0), (1, .int .i64 d), (4, .ptr 1 0), (5, .ptr 2 0)], [sdI t i n ok, zJ, nL4 (.sl 3 0 L.length false), some ([.sld (encs encJ L)], tJ)], [0]⟩
def nfSL : Ex → Kp := fun _ => { keep := [0, 1, 4, 5], wr := [0] }
--FOLD vwJ sdI ssB zJ nL4
set_option maxRecDepth 100000 in
theorem sl0T (val : SS → J × SS) (t : List UInt8) (i n : Int) (ok : Bool) (d : Int) : bodyT (ESV val) 1 nfSL (lp Tryz.prog fSLst 0) (stSL0 t i n ok d) = (
 bif ok then .bind (SS.tk (93 : UInt8) (SS.mk (List.drop (Int.toNat i) t) n ok)) fun y0 => .need [FnOK Tryz.prog 68 [.ptr 0 0, .int .u8 93] [sdI t i n ok] (Ret.mk (.bool y0.1) [sdI t (↑(pos' t (SS.s y0.2)) : Int) (SS.n y0.2) (SS.ok y0.2)]
 [0])] (bif !y0.1 then .bind (val (SS.mk (List.drop (Int.toNat (↑(pos' t (SS.s y0.2)) : Int)) t) (SS.n y0.2) (SS.ok y0.2))) fun y1 => .need [FnOK Tryz.prog 45 [.ptr 0 0, .int .i64 (IntKind.wrap IntKind.i64 (d - 1))] [sdI t (↑(pos' t (SS.s
 y0.2)) : Int) (SS.n y0.2) (SS.ok y0.2)] (Ret.mk (.agg (vwJ y1.1)) [sdI t (↑(pos' t (SS.s y1.2)) : Int) (SS.n y1.2) (SS.ok y1.2)] [0])] (.need [true = true, 0 = 0, 1 ≤ 9223372036854775807, 80 ≤ 140737488355328] (.done (Ex.normal, St.mk (mkTm
 32 [(0, .ptr 0 0), (1, .int .i64 d), (4, .ptr 1 0), (5, .ptr 2 0)]) [sdI t (↑(pos' t (SS.s y1.2)) : Int) (SS.n y1.2) (SS.ok y1.2), zJ, nL4 (.sl 3 0 1 false), some ([.sld (vwJ y1.1)], 25)] [0]))) else .done (Ex.exit 0, St.mk (mkTm 32 [(0,
 .ptr 0 0), (1, .int .i64 d), (4, .ptr 1 0), (5, .ptr 2 0)]) [sdI t (↑(pos' t (SS.s y0.2)) : Int) (SS.n y0.2) (SS.ok y0.2), zJ, nL4 (.dsl 0 true [])] [0])) else .done (Ex.exit 0, St.mk (mkTm 32 [(0, .ptr 0 0), (1, .int .i64 d), (4, .ptr 1
 0), (5, .ptr 2 0)]) [sdI t i n ok, zJ, nL4 (.dsl 0 true [])] [0]) : T _) := by kernel_rfl
set_option maxRecDepth 100000 in
theorem sl1T (val : SS → J × SS) (t : List UInt8) (i n : Int) (ok : Bool) (d : Int) (L : List J) : bodyT (ESV val) 1 nfSL (lp Tryz.prog fSLst 0) (stSL1 t i n ok d L) = (
 bif ok then .bind (SS.tk (93 : UInt8) (SS.mk (List.drop (Int.toNat i) t) n ok)) fun y0 => .need [FnOK Tryz.prog 68 [.ptr 0 0, .int .u8 93] [sdI t i n ok] (Ret.mk (.bool y0.1) [sdI t (↑(pos' t (SS.s y0.2)) : Int) (SS.n y0.2) (SS.ok y0.2)]
 [0])] (bif !y0.1 then bif decide ((↑L.length : Int) > 0) then .bind (SS.nd (44 : UInt8) (SS.mk (List.drop (Int.toNat (↑(pos' t (SS.s y0.2)) : Int)) t) (SS.n y0.2) (SS.ok y0.2))) fun y1 => .need [FnOK Tryz.prog 92 [.ptr 0 0, .int .u8 44]
 [sdI t (↑(pos' t (SS.s y0.2)) : Int) (SS.n y0.2) (SS.ok y0.2)] (Ret.mk (.tup []) [sdI t (↑(pos' t (SS.s y1)) : Int) (SS.n y1) (SS.ok y1)] [0])] (.bind (val (SS.mk (List.drop (Int.toNat (↑(pos' t (SS.s y1)) : Int)) t) (SS.n y1) (SS.ok y1)))
 fun y2 => .need [FnOK Tryz.prog 45 [.ptr 0 0, .int .i64 (IntKind.wrap IntKind.i64 (d - 1))] [sdI t (↑(pos' t (SS.s y1)) : Int) (SS.n y1) (SS.ok y1)] (Ret.mk (.agg (vwJ y2.1)) [sdI t (↑(pos' t (SS.s y2.2)) : Int) (SS.n y2.2) (SS.ok y2.2)]
 [0])] (.need [0 = 0, List.length (encs encJ L) = L.length * 5, L.length + 1 ≤ 9223372036854775807, (L.length + 1) * 80 ≤ 140737488355328] (.done (Ex.normal, St.mk (mkTm 32 [(0, .ptr 0 0), (1, .int .i64 d), (4, .ptr 1 0), (5, .ptr 2 0)])
 [sdI t (↑(pos' t (SS.s y2.2)) : Int) (SS.n y2.2) (SS.ok y2.2), zJ, nL4 (.sl 3 0 (L.length + 1) false), some ([.sld (encs encJ L ++ [.int .i64 (J.kind y2.1), .int .i64 (J.n y2.1), .str (J.t y2.1), .dsl (List.length (J.keys y2.1)) false (encs
 encStr (J.keys y2.1)), .dsl (List.length (J.items y2.1)) false (encs encJ (J.items y2.1))])], 25)] [0])))) else .bind (val (SS.mk (List.drop (Int.toNat (↑(pos' t (SS.s y0.2)) : Int)) t) (SS.n y0.2) (SS.ok y0.2))) fun y3 => .need [FnOK
 Tryz.prog 45 [.ptr 0 0, .int .i64 (IntKind.wrap IntKind.i64 (d - 1))] [sdI t (↑(pos' t (SS.s y0.2)) : Int) (SS.n y0.2) (SS.ok y0.2)] (Ret.mk (.agg (vwJ y3.1)) [sdI t (↑(pos' t (SS.s y3.2)) : Int) (SS.n y3.2) (SS.ok y3.2)] [0])] (.need [0 =
 0, List.length (encs encJ L) = L.length * 5, L.length + 1 ≤ 9223372036854775807, (L.length + 1) * 80 ≤ 140737488355328] (.done (Ex.normal, St.mk (mkTm 32 [(0, .ptr 0 0), (1, .int .i64 d), (4, .ptr 1 0), (5, .ptr 2 0)]) [sdI t (↑(pos' t
 (SS.s y3.2)) : Int) (SS.n y3.2) (SS.ok y3.2), zJ, nL4 (.sl 3 0 (L.length + 1) false), some ([.sld (encs encJ L ++ [.int .i64 (J.kind y3.1), .int .i64 (J.n y3.1), .str (J.t y3.1), .dsl (List.length (J.keys y3.1)) false (encs encStr (J.keys
 y3.1)), .dsl (List.length (J.items y3.1)) false (encs encJ (J.items y3.1))])], 25)] [0]))) else .done (Ex.exit 0, St.mk (mkTm 32 [(0, .ptr 0 0), (1, .int .i64 d), (4, .ptr 1 0), (5, .ptr 2 0)]) [sdI t (↑(pos' t (SS.s y0.2)) : Int) (SS.n
 y0.2) (SS.ok y0.2), zJ, nL4 (.sl 3 0 L.length false), some ([.sld (encs encJ L)], 25)] [0])) else .done (Ex.exit 0, St.mk (mkTm 32 [(0, .ptr 0 0), (1, .int .i64 d), (4, .ptr 1 0), (5, .ptr 2 0)]) [sdI t i n ok, zJ, nL4 (.sl 3 0 L.length
 false), some ([.sld (encs encJ L)], 25)] [0]) : T _) := by kernel_rfl
structure SOut (x y : SS) : Prop where
 suf : y.s <:+ x.s
 on : y.ok = true → y.s.length + 1 ≤ x.s.length ∧ y.n ≤ 400
 lo : x.n ≤ y.n
 hi : y.n ≤ 401
structure SIn (t : List UInt8) (x : SS) : Prop where
 suf : x.s <:+ t
 lo : 0 ≤ x.n
 hi : x.n ≤ 400
structure SValOK (t : List UInt8) (d : Int) (val : SS → J × SS) : Prop where
 run : ∀ x, SIn t x → FnOK Tryz.prog fSVal [.ptr 0 0, .int .i64 d] [ssB t x] ⟨.agg (vwJ (val x).1), [ssB t (val x).2], [0]⟩
 out : ∀ x, 0 ≤ x.n → x.n ≤ 400 → SOut x (val x).2
theorem stk_suf (b : UInt8) (x : SS) : (x.tk b).2.s <:+ x.s := hdS_suf b (List.suffix_refl _)
theorem snd_suf (b : UInt8) (x : SS) : (x.nd b).s <:+ x.s := hdS_suf b (List.suffix_refl _)
theorem ss_eta {t : List UInt8} {x : SS} (h : x.s <:+ t) : SS.mk (t.drop ((pos' t x.s : Nat) : Int).toNat) x.n x.ok = x := by rw [Int.toNat_natCast, drop_pos h]
theorem stk_run {t : List UInt8} (b : UInt8) (ht : t.length ≤ 4294967296) (x : SS) (h : x.s <:+ t) : FnOK Tryz.prog fSTake [.ptr 0 0, .int .u8 (b.toNat : Nat)] [ssB t x] ⟨.bool (x.tk b).1, [ssB t (x.tk b).2], [0]⟩ := stake_ok b ht h x.n x.ok
theorem snd_run {t : List UInt8} (b : UInt8) (ht : t.length ≤ 4294967296) (x : SS) (h : x.s <:+ t) : FnOK Tryz.prog fSNeed [.ptr 0 0, .int .u8 (b.toNat : Nat)] [ssB t x] ⟨.tup [], [ssB t (x.nd b)], [0]⟩ := sneed_ok b ht h x.n x.ok
theorem sLst_off (f : SS → J × SS) (n : Nat) (x : SS) (L : List J) (h : x.ok = false) : sLst f n x L = (x, L) := by
 cases n with
 | zero => rfl
 | succ n => rw [sLst, h]; rfl
theorem sl1_loop {t : List UInt8} {d : Int} {val : SS → J × SS} (ht : t.length ≤ 1000000) (hd : 1 ≤ d ∧ d ≤ 1000) (hV : SValOK t (d - 1) val) : ∀ (n : Nat) (x : SS) (L : List J), x.s <:+ t → L ≠ [] → (x.ok = true → SIn t x ∧ L.length + x.s.length ≤ t.length + 1 ∧ x.s.length + 1 ≤ n) →
  LoopTo Tryz.prog 1 (lp Tryz.prog fSLst 0) (stSL1 t (pos' t x.s : Nat) x.n x.ok d L) (.exit 0) (stSL1 t (pos' t (sLst val n x L).1.s : Nat) (sLst val n x L).1.n (sLst val n x L).1.ok d (sLst val n x L).2)
 | n, ⟨s, m, false⟩, L, hs, hne, hr => by
  rw [sLst_off _ _ _ _ rfl]
  refine loopT (E := ESV val) follows named (sl1T val t (pos' t s : Nat) m false d L) ?_
  simp only [WP_cond, T.WP, All, decide_eq_true_eq, decide_eq_false_iff_not, and_true]
  exact ⟨fun h => by simp at h, fun _ => ⟨rfl, rfl⟩⟩
 | 0, ⟨s, m, true⟩, L, hs, hne, hr => by have := (hr rfl).2.2; omega
 | n + 1, ⟨s, m, true⟩, L, hs, hne, hr => by
  obtain ⟨hI, hL, hn⟩ := hr rfl
  have hlen : 0 < L.length := by cases L; exact absurd rfl hne; simp
  have hem : L.isEmpty = false := by cases L; exact absurd rfl hne; rfl
  have c1 := stk_run 93 (by omega) ⟨s, m, true⟩ hs
  have s1 := (stk_suf 93 ⟨s, m, true⟩).trans hs
  have e0 : sLst val (n + 1) ⟨s, m, true⟩ L = bif ((SS.mk s m true).tk 93).1 then (((SS.mk s m true).tk 93).2, L) else sLst val n (val (((SS.mk s m true).tk 93).2.nd 44)).2 (L ++ [(val (((SS.mk s m true).tk 93).2.nd 44)).1]) := by
   rw [sLst, hem]; rfl
  rw [e0]
  have hx1 : ((SS.mk s m true).tk 93).2.n = m := rfl
  have l1 := (stk_suf 93 ⟨s, m, true⟩).length_le
  refine loopT (E := ESV val) follows named (sl1T val t (pos' t s : Nat) m true d L) ?_
  have u93 : UInt8.ofNat (93 : Int).toNat = 93 := rfl
  have u44 : UInt8.ofNat (44 : Int).toNat = 44 := rfl
  simp only [WP_cond, T.WP, All, decide_eq_true_eq, decide_eq_false_iff_not, and_true]
  refine ⟨fun _ => ?_, fun h => by simp at h⟩
  rw [show SS.mk (t.drop ((pos' t s : Nat) : Int).toNat) m true = ⟨s, m, true⟩ from ss_eta (x := ⟨s, m, true⟩) hs]
  rintro y rfl
  refine ⟨c1, fun hk => ?_, fun hk => ?_⟩
  ·have hk : ((SS.mk s m true).tk 93).1 = false := by simpa using hk
   rw [hk]
   simp only [cond_false]
   generalize ((SS.mk s m true).tk 93).2 = x1 at *
   have c2 := snd_run 44 (by omega) x1 s1
   have s2 := (snd_suf 44 x1).trans s1
   have l2 := (snd_suf 44 x1).length_le
   have hn2 : (x1.nd 44).n = m := hx1
   have hI2 : SIn t (x1.nd 44) := ⟨s2, by rw [hn2]; exact hI.lo, by rw [hn2]; exact hI.hi⟩
   refine ⟨fun _ => ?_, fun h => by omega⟩
   rw [ss_eta s1]
   rintro y rfl
   refine ⟨c2, ?_⟩
   rw [ss_eta s2]
   rintro y rfl
   have hV1 := hV.run _ hI2
   have o1 := hV.out _ hI2.lo hI2.hi
   have hw : IntKind.i64.wrap (d - 1) = d - 1 := wrap_id (by omega)
   rw [hw]
   have ih := sl1_loop ht hd hV n (val (x1.nd 44)).2 (L ++ [(val (x1.nd 44)).1]) (o1.suf.trans s2) (by simp) (fun hok => by
    obtain ⟨q1, q2⟩ := o1.on hok
    have := o1.lo
    have := hI2.lo
    simp only at hL hn l1
    exact ⟨⟨o1.suf.trans s2, by omega, q2⟩, by simp only [List.length_append, List.length_singleton]; omega, by omega⟩)
   have hll := hs.length_le
   refine ⟨hV1, ⟨trivial, by rw [layJ.length], by simp only at hL; omega, by simp only at hL; omega⟩, ?_⟩
   have es : stSL1 t (pos' t (val (x1.nd 44)).2.s : Nat) (val (x1.nd 44)).2.n (val (x1.nd 44)).2.ok d (L ++ [(val (x1.nd 44)).1]) = ⟨mkTm 32 [(0, .ptr 0 0), (1, .int .i64 d), (4, .ptr 1 0), (5, .ptr 2 0)], [sdI t (pos' t (val (x1.nd 44)).2.s : Nat) (val (x1.nd 44)).2.n (val (x1.nd 44)).2.ok, zJ, nL4 (.sl 3 0 (L.length + 1) false), some ([.sld (flatC (.sld (encs encJ L) :: vwJ (val (x1.nd 44)).1))], tJ)], [0]⟩ := by
    rw [flatC_snoc]; simp [stSL1]
   rw [es] at ih
   exact ih
  ·have hk : ((SS.mk s m true).tk 93).1 = true := by simpa using hk
   rw [hk]
   exact ⟨rfl, rfl⟩
end Go.Proofs.YtfncaghjfgnnhaaGreatDoor

namespace Go.Proofs.YtfncaghjfgnnhaaGreatDoor
open Go.RowKit
set_option maxRecDepth 100000
theorem sLst_ne (f : SS → J × SS) : ∀ (n : Nat) (x : SS) (L : List J), L ≠ [] → (sLst f n x L).2 ≠ []
 | 0, x, L, h => h
 | n + 1, x, L, h => by
  rw [sLst]
  cases x.ok with
  | false => exact h
  | true =>
   simp only [cond_true]
   cases (x.tk 93).1 with
   | true => exact h
   | false => exact sLst_ne f n _ _ (by simp)
def stSLe (t : List UInt8) (x : SS) (d : Int) (L : List J) : St := bif L.isEmpty then stSL0 t (pos' t x.s : Nat) x.n x.ok d else stSL1 t (pos' t x.s : Nat) x.n x.ok d L
theorem sl0_loop {t : List UInt8} {d : Int} {val : SS → J × SS} (ht : t.length ≤ 1000000) (hd : 1 ≤ d ∧ d ≤ 1000) (hV : SValOK t (d - 1) val) (n : Nat) (x : SS) (hI : SIn t x) (hok : x.ok = true) (hn : x.s.length + 1 ≤ n) :
  LoopTo Tryz.prog 1 (lp Tryz.prog fSLst 0) (stSL0 t (pos' t x.s : Nat) x.n x.ok d) (.exit 0) (stSLe t (sLst val (n + 1) x []).1 d (sLst val (n + 1) x []).2) := by
 obtain ⟨s, m, ok⟩ := x
 simp only at hok
 subst hok
 have hs := hI.suf
 have c1 := stk_run 93 (by omega) ⟨s, m, true⟩ hs
 have s1 := (stk_suf 93 ⟨s, m, true⟩).trans hs
 have e0 : sLst val (n + 1) ⟨s, m, true⟩ [] = bif ((SS.mk s m true).tk 93).1 then (((SS.mk s m true).tk 93).2, []) else sLst val n (val ((SS.mk s m true).tk 93).2).2 [(val ((SS.mk s m true).tk 93).2).1] := by
  rw [sLst]; rfl
 rw [e0]
 have hx1 : ((SS.mk s m true).tk 93).2.n = m := rfl
 have l1 := (stk_suf 93 ⟨s, m, true⟩).length_le
 refine loopT (E := ESV val) follows named (sl0T val t (pos' t s : Nat) m true d) ?_
 simp only [WP_cond, T.WP, All, and_true]
 refine ⟨fun _ => ?_, fun h => by simp at h⟩
 rw [show SS.mk (t.drop ((pos' t s : Nat) : Int).toNat) m true = ⟨s, m, true⟩ from ss_eta (x := ⟨s, m, true⟩) hs]
 rintro y rfl
 refine ⟨c1, fun hk => ?_, fun hk => ?_⟩
 ·have hk : ((SS.mk s m true).tk 93).1 = false := by simpa using hk
  rw [hk]
  simp only [cond_false]
  generalize ((SS.mk s m true).tk 93).2 = x1 at *
  have hI2 : SIn t x1 := ⟨s1, by rw [hx1]; exact hI.lo, by rw [hx1]; exact hI.hi⟩
  rw [ss_eta s1]
  rintro y rfl
  have hV1 := hV.run _ hI2
  have o1 := hV.out _ hI2.lo hI2.hi
  have hw : IntKind.i64.wrap (d - 1) = d - 1 := wrap_id (by omega)
  rw [hw]
  have hll : s.length ≤ t.length := hs.length_le
  have ih := sl1_loop ht hd hV n (val x1).2 [(val x1).1] (o1.suf.trans s1) (by simp) (fun hok => by
   obtain ⟨q1, q2⟩ := o1.on hok
   have := o1.lo
   have := hI2.lo
   simp only at hn l1
   exact ⟨⟨o1.suf.trans s1, by omega, q2⟩, by simp only [List.length_singleton]; omega, by omega⟩)
  have hne := sLst_ne val n (val x1).2 [(val x1).1] (by simp)
  have ee : stSLe t (sLst val n (val x1).2 [(val x1).1]).1 d (sLst val n (val x1).2 [(val x1).1]).2 = stSL1 t (pos' t (sLst val n (val x1).2 [(val x1).1]).1.s : Nat) (sLst val n (val x1).2 [(val x1).1]).1.n (sLst val n (val x1).2 [(val x1).1]).1.ok d (sLst val n (val x1).2 [(val x1).1]).2 := by
   unfold stSLe
   cases hL : (sLst val n (val x1).2 [(val x1).1]).2 with
   | nil => exact absurd hL hne
   | cons a L => rfl
  rw [ee]
  refine ⟨hV1, ⟨trivial, by omega, by omega⟩, ?_⟩
  have es : stSL1 t (pos' t (val x1).2.s : Nat) (val x1).2.n (val x1).2.ok d [(val x1).1] = ⟨mkTm 32 [(0, .ptr 0 0), (1, .int .i64 d), (4, .ptr 1 0), (5, .ptr 2 0)], [sdI t (pos' t (val x1).2.s : Nat) (val x1).2.n (val x1).2.ok, zJ, nL4 (.sl 3 0 1 false), some ([.sld (vwJ (val x1).1)], tJ)], [0]⟩ := by
   rw [← encJ_vw]; simp [stSL1, encs]
  rw [es] at ih
  exact ih
 ·have hk : ((SS.mk s m true).tk 93).1 = true := by simpa using hk
  rw [hk]
  exact ⟨rfl, rfl⟩
noncomputable def lsSL (val : SS → J × SS) (N : Nat) (t : List UInt8) (x : SS) (d : Int) : Nat → St → Option LRes := fun id _ => match id with
 | 0 => some ⟨sLst val N x [], fun y => .two { keep := [0, 1, 4, 5], wr := [0] } (stSL0 t (pos' t x.s : Nat) x.n x.ok d) y.2.isEmpty (.exit 0) (stSL0 t (pos' t y.1.s : Nat) y.1.n y.1.ok d) (.exit 0) (stSL1 t (pos' t y.1.s : Nat) y.1.n y.1.ok d y.2)⟩
 | _ => none
--FOLD vwJ sdI ssB zJ nL4
set_option maxRecDepth 100000 in
theorem slstT (val : SS → J × SS) (N : Nat) (t : List UInt8) (x : SS) (d : Int) : fnT { P := Tryz.prog, vw := vwA, res := resSV val, ls := lsSL val N t x d } 0 fSLst [.ptr 0 0, .int .i64 d] [sdI t (pos' t x.s : Nat) x.n x.ok] = (
 .bind (sLst val N x []) fun y0 => .need [St.mk (mkTm 32 [(0, .ptr 0 0), (1, .int .i64 d), (4, .ptr 1 0), (5, .ptr 2 0)]) [sdI t (↑(pos' t (SS.s x)) : Int) (SS.n x) (SS.ok x), zJ, nL4 (.dsl 0 true [])] [0] = St.mk (mkTm 32 [(0, .ptr 0 0),
 (1, .int .i64 d), (4, .ptr 1 0), (5, .ptr 2 0)]) [sdI t (↑(pos' t (SS.s x)) : Int) (SS.n x) (SS.ok x), zJ, nL4 (.dsl 0 true [])] [0]] (bif List.isEmpty y0.2 then .need [SoundC Tryz.prog 1 (blk Tryz.prog fSLst 0) (St.mk (mkTm 32 [(0, .ptr 0
 0), (1, .int .i64 d), (4, .ptr 1 0), (5, .ptr 2 0)]) [sdI t (↑(pos' t (SS.s x)) : Int) (SS.n x) (SS.ok x), zJ, nL4 (.dsl 0 true [])] [0]) (Ex.exit 0) (St.mk (mkTm 32 [(0, .ptr 0 0), (1, .int .i64 d), (4, .ptr 1 0), (5, .ptr 2 0)]) [sdI t
 (↑(pos' t (SS.s y0.1)) : Int) (SS.n y0.1) (SS.ok y0.1), zJ, nL4 (.dsl 0 true [])] [0])] (.done (Ret.mk (.agg [.int .i64 4, .int .i64 0, .str [], .dsl 0 false [], .dsl 0 false []]) [sdI t (↑(pos' t (SS.s y0.1)) : Int) (SS.n y0.1) (SS.ok
 y0.1)] [0])) else .need [SoundC Tryz.prog 1 (blk Tryz.prog fSLst 0) (St.mk (mkTm 32 [(0, .ptr 0 0), (1, .int .i64 d), (4, .ptr 1 0), (5, .ptr 2 0)]) [sdI t (↑(pos' t (SS.s x)) : Int) (SS.n x) (SS.ok x), zJ, nL4 (.dsl 0 true [])] [0])
 (Ex.exit 0) (St.mk (mkTm 32 [(0, .ptr 0 0), (1, .int .i64 d), (4, .ptr 1 0), (5, .ptr 2 0)]) [sdI t (↑(pos' t (SS.s y0.1)) : Int) (SS.n y0.1) (SS.ok y0.1), zJ, nL4 (.sl 3 0 y0.2.length false), some ([.sld (encs encJ y0.2)], 25)] [0])]
 (.done (Ret.mk (.agg [.int .i64 4, .int .i64 0, .str [], .dsl 0 false [], .dsl y0.2.length false (encs encJ y0.2)]) [sdI t (↑(pos' t (SS.s y0.1)) : Int) (SS.n y0.1) (SS.ok y0.1)] [0]))) : T _) := (T.force_eq _).symm.trans (by kernel_rfl)
theorem slist_ok {t : List UInt8} {d : Int} {val : SS → J × SS} (ht : t.length ≤ 1000000) (hd : 1 ≤ d ∧ d ≤ 1000) (hV : SValOK t (d - 1) val) (n : Nat) (x : SS) (hI : SIn t x) (hok : x.ok = true) (hn : x.s.length + 1 ≤ n) :
  FnOK Tryz.prog fSLst [.ptr 0 0, .int .i64 d] [ssB t x] ⟨.agg (vwJ (.mk 4 0 [] [] (sLst val (n + 1) x []).2)), [ssB t (sLst val (n + 1) x []).1], [0]⟩ := by
 refine fnOK_TL (E := { P := Tryz.prog, vw := vwA, res := resSV val, ls := lsSL val (n + 1) t x d }) follows named (slstT val (n + 1) t x d) (by simp) ?_
 have hl := sl0_loop ht hd hV n x hI hok hn
 simp only [WP_cond, T.WP, All, and_true]
 generalize sLst val (n + 1) x [] = y at *
 obtain ⟨y1, L⟩ := y
 rintro z rfl
 unfold stSLe at hl
 refine ⟨trivial, fun h => ?_, fun h => ?_⟩
 ·simp only at h hl
  rw [h] at hl
  have e : L = [] := List.isEmpty_iff.1 h
  subst e
  exact ⟨.loopTo hl, ⟨rfl, rfl, by simp⟩⟩
 ·simp only at h hl
  rw [h] at hl
  exact ⟨.loopTo hl, ⟨rfl, rfl, by simp⟩⟩
end Go.Proofs.YtfncaghjfgnnhaaGreatDoor

namespace Go.Proofs.YtfncaghjfgnnhaaGreatDoor
open Go.RowKit
set_option maxRecDepth 100000
section
variable {β : Type}
def forceVs (l : List V) (k : List V → β) : β :=
 match l with
 | [] => k []
 | x :: xs => forceV x fun y => forceVs xs fun ys => k (y :: ys)
theorem forceVs_eq : ∀ (l : List V) (k : List V → β), forceVs l k = k l
 | [], _ => rfl
 | x :: xs, k => by unfold forceVs; rw [forceV_eq, forceVs_eq xs]
def forceH (hp : Hp) (k : Hp → β) : β :=
 match hp with
 | [] => k []
 | none :: t => forceH t fun t => k (none :: t)
 | some (cs, ty) :: t => forceVs cs fun cs => forceH t fun t => k (some (cs, ty) :: t)
theorem forceH_eq : ∀ (hp : Hp) (k : Hp → β), forceH hp k = k hp
 | [], _ => rfl
 | none :: t, k => by unfold forceH; rw [forceH_eq t]
 | some (cs, ty) :: t, k => by unfold forceH; rw [forceVs_eq, forceH_eq t]
def chg : Op → Bool
 | .alloc _ => true
 | .box _ _ => true
 | .buildSlice _ _ _ => true
 | .makeSlice _ _ _ => true
 | .store _ _ _ => true
 | .call _ => true
 | .convert _ _ _ => true
 | _ => false
def forceO (o : Op) (hp : Hp) (k : Hp → β) : β := match chg o with
 | true => forceH hp k
 | false => k hp
theorem forceO_eq (o : Op) (hp : Hp) (k : Hp → β) : forceO o hp k = k hp := by
 unfold forceO; split
 ·exact forceH_eq _ _
 ·rfl
noncomputable def traceC (P : Program) (callF : CallF) (ops : Array Oper) : List Oper → St → List Rec → (List Rec → St → Option β) → Option β
 | [], s, acc, k => k acc s
 | o :: rest, s, acc, k => match wantedV ops s.tm o with
  | some true => match evOp P callF (evalV s.tm) s.hp o.op with
   | some out => forceV out.v fun v => putK s.tm o.dst v fun tm => forceO o.op out.hp fun hp => traceC P callF ops rest ⟨tm, hp, forceW out.wr s.wr⟩ ((s, out.acc, out.wr) :: acc) k
   | none => none
  | some false => putK s.tm o.dst (.lit undef) fun tm => traceC P callF ops rest ⟨tm, s.hp, s.wr⟩ ((s, [], []) :: acc) k
  | none => none
def iterC (step : St → (Ex → St → Option β) → Option β) (k : Ex → St → Option β) : Nat → St → Option β
 | 0, _ => none
 | n + 1, s => step s fun ex s' => match ex with
  | .normal => iterC step k n s'
  | .exit i => k (.exit i) s'
  | .ret => k .ret s'
noncomputable def codeC (P : Program) (callF : CallF) (n : Nat) : Code → St → (Ex → St → Option β) → Option β
 | .skip, s, k => k .normal s
 | .region _ ops draw, s, k => traceC P callF ops ops.toList s [] fun l s2 => match draw with
  | false => k .normal s2
  | true => match drawOK ops l.reverse s2 with
   | true => k .normal s2
   | false => none
 | .seq x y, s, k => codeC P callF n x s fun ex s' => match ex with
  | .normal => codeC P callF n y s' k
  | .exit i => k (.exit i) s'
  | .ret => k .ret s'
 | .cond c x y, s, k => match evalV s.tm c with
  | .bool true => codeC P callF n x s k
  | .bool false => codeC P callF n y s k
  | _ => none
 | .block id body, s, k => codeC P callF n body s fun ex s' => k (outEx id ex) s'
 | .loop body, s, k => iterC (codeC P callF n body) k n s
 | .exit id, s, k => k (.exit id) s
 | .ret, s, k => k .ret s
 | _, _, _ => none
end
def gcC (P : Program) (m : Nat) (ids : List Nat) (v : V) (s : St) : Ret := ⟨frz P s.hp ids m 100 v, (normSt P m [] ids s).hp, (normSt P m [] ids s).wr⟩
def idsC (m : Nat) (frozen : Bool) (v : List V) (hp : Hp) : List Nat := match frozen with
 | true => List.range m
 | false => reach hp 100000 (V.refsL v ++ (hp.take m).flatMap fun (x : Option Blk) => match x with | some blk => V.refsL blk.1 | none => []) (List.range m)
noncomputable def fnC (P : Program) (callF : CallF) (n : Nat) (frozen : FuncId → Bool) : CallF := fun f vs hp =>
 match P.funcs[f]? with
 | some fn => match fn.body with
  | some c => codeC P callF n c ⟨Tm.start (vs.length + (fn.ntmps - vs.length)) vs, hp, []⟩ fun ex s => match ex with
   | .exit _ => none
   | _ => match evResultL P s.hp s.tm fn.results.toList with
    | some v => match permOK hp.length (idsC hp.length (frozen f) v s.hp) with
     | true => match gcC P hp.length (idsC hp.length (frozen f) v s.hp) (oneOf v) s with
      | ⟨v, h, w⟩ => forceV v fun v => forceH h fun h => some ⟨v, h, w⟩
     | false => none
    | none => none
  | none => none
 | none => none
noncomputable def deepC (P : Program) (ext : CallF) (n : Nat) (frozen : FuncId → Bool) : Nat → CallF
 | 0 => fun _ _ _ => none
 | d + 1 => fun f vs hp => match ext f vs hp with
  | some r => some r
  | none => fnC P (deepC P ext n frozen d) n frozen f vs hp
section
variable {P : Program} {callF : CallF} {β : Type}
theorem traceC_ok (hn : Named P) (hb : Bodied P callF) (hc : CallOK P callF) {ops : Array Oper} : ∀ {os : List Oper} {s : St} {acc : List Rec} {k : List Rec → St → Option β} {r : β}, traceC P callF ops os s acc k = some r →
  ∃ l s2, TraceR P ops os s l s2 ∧ k (l.reverse ++ acc) s2 = some r
 | [], s, acc, k, r, h => ⟨[], s, .nil s, by simpa [traceC] using h⟩
 | o :: rest, s, acc, k, r, h => by
  unfold traceC at h
  split at h
  ·rename_i hw
   split at h
   ·rename_i out ho
    simp only [forceV_eq, putK_eq, forceO_eq, forceW_eq] at h
    obtain ⟨l, s2, h1, h2⟩ := traceC_ok hn hb hc h
    refine ⟨_, s2, .cons (.inl ⟨hw, out, evOp_ok hn hb hc ho, rfl, rfl, rfl⟩) h1, ?_⟩
    simpa using h2
   ·cases h
  ·rename_i hw
   simp only [putK_eq] at h
   obtain ⟨l, s2, h1, h2⟩ := traceC_ok hn hb hc h
   refine ⟨_, s2, .cons (.inr ⟨hw, rfl, rfl, rfl⟩) h1, ?_⟩
   simpa using h2
  ·cases h
theorem iterC_ok {m : Nat} {body : Code} {step : St → (Ex → St → Option β) → Option β} (hs : ∀ s k r, step s k = some r → ∃ ex s', SoundC P m body s ex s' ∧ k ex s' = some r) {k : Ex → St → Option β} {r : β} :
  ∀ (n : Nat) (s : St), iterC step k n s = some r → ∃ ex s', LoopTo P m body s ex s' ∧ k ex s' = some r
 | 0, s, h => by cases h
 | n + 1, s, h => by
  unfold iterC at h
  obtain ⟨ex, s', h1, h2⟩ := hs _ _ _ h
  cases ex with
  | normal =>
   obtain ⟨ex, s2, h3, h4⟩ := iterC_ok hs n s' h2
   exact ⟨ex, s2, .step h1 h3, h4⟩
  | exit i => exact ⟨_, _, .done h1 (by simp), h2⟩
  | ret => exact ⟨_, _, .done h1 (by simp), h2⟩
theorem codeC_ok (hm : P.follows .mixedOrders = true) (hn : Named P) (hb : Bodied P callF) (hc : CallOK P callF) {m n : Nat} : ∀ {c : Code} {s : St} {k : Ex → St → Option β} {r : β}, codeC P callF n c s k = some r → ∃ ex s', SoundC P m c s ex s' ∧ k ex s' = some r
 | .skip, s, k, r, h => ⟨.normal, s, .skip, h⟩
 | .region id ops draw, s, k, r, h => by
  unfold codeC at h
  obtain ⟨l, s2, h1, h2⟩ := traceC_ok hn hb hc h
  cases draw with
  | false => exact ⟨_, _, .region hm hn h1 (fun h => by cases h), h2⟩
  | true =>
   simp only [List.append_nil, List.reverse_reverse] at h2
   split at h2
   ·rename_i hd; exact ⟨_, _, .region hm hn h1 (fun _ => hd), h2⟩
   ·cases h2
 | .seq x y, s, k, r, h => by
  unfold codeC at h
  obtain ⟨ex, s1, h1, h2⟩ := codeC_ok hm hn hb hc (m := m) h
  cases ex with
  | normal =>
   obtain ⟨ex, s2, h3, h4⟩ := codeC_ok hm hn hb hc (m := m) h2
   exact ⟨_, _, .seq h1 h3, h4⟩
  | exit i => exact ⟨_, _, .seq_out h1 (by simp), h2⟩
  | ret => exact ⟨_, _, .seq_out h1 (by simp), h2⟩
 | .cond c x y, s, k, r, h => by
  unfold codeC at h
  split at h
  ·rename_i hv
   obtain ⟨ex, s1, h1, h2⟩ := codeC_ok hm hn hb hc (m := m) h
   exact ⟨_, _, .cond (b := true) hv h1, h2⟩
  ·rename_i hv
   obtain ⟨ex, s1, h1, h2⟩ := codeC_ok hm hn hb hc (m := m) h
   exact ⟨_, _, .cond (b := false) hv h1, h2⟩
  ·cases h
 | .block id body, s, k, r, h => by
  unfold codeC at h
  obtain ⟨ex, s1, h1, h2⟩ := codeC_ok hm hn hb hc (m := m) h
  exact ⟨_, _, .block h1, h2⟩
 | .loop body, s, k, r, h => by
  unfold codeC at h
  obtain ⟨ex, s', h1, h2⟩ := iterC_ok (m := m) (body := body) (fun s k r h => codeC_ok hm hn hb hc (m := m) h) n s h
  exact ⟨_, _, .loopTo h1, h2⟩
 | .exit id, s, k, r, h => ⟨_, _, .exit, h⟩
 | .ret, s, k, r, h => ⟨_, _, .ret, h⟩
 | .rangeFunc _ _ _ _, _, _, _, h => by cases h
 | .scope _, _, _, _, h => by cases h
 | .label _, _, _, _, h => by cases h
 | .goto _, _, _, _, h => by cases h
 | .refuse _, _, _, _, h => by cases h
theorem gcC_tidy {hp0 : Hp} {s : St} {v : V} {ids : List Nat} (hp : permOK hp0.length ids = true) (C : SR hp0 s) : FnTidy hp0 (gcC P hp0.length ids v s) := by
 have C' := (norm_weakV (P := P) (keep := []) hp).st hp0 rfl C
 exact ⟨C'.len, fun b hb hn => C'.frame b hb hn, fun b hb => by simp only [gcC, normSt, List.mem_eraseDups, List.mem_filter, decide_eq_true_eq] at hb; exact hb.2, C'.alive⟩
theorem gcC_sound {hp0 : Hp} {I0 Im : Nat → Prop} {μ0 μ : Mu} {w0 w : World} {s : St} {a : Act} {v : V} {val : Value} {ids : List Nat} (hp : permOK hp0.length ids = true) (C : CI P hp0 I0 μ0 w0 s a w Im μ) (hv : V.R P Im μ w v val) :
  ∃ μr Ir, V.R P Ir μr w (gcC P hp0.length ids v s).v val ∧ Good P I0 Ir μ0 μr w0 w hp0 (gcC P hp0.length ids v s).hp (List.range hp0.length) (gcC P hp0.length ids v s).wr := by
 obtain ⟨Ir, μr, C', hV⟩ := (norm_weakV (keep := []) hp).run rfl C
 obtain ⟨μ2, hle, G⟩ := C'.good
 exact ⟨μ2, Ir, (hV _ _ hv).keep (.refl w (fun _ => False)) (.refl _) hle, G⟩
theorem fnOK_codeC {f : FuncId} {fn : Func} {c : Code} {vs : List V} {hp : Hp} {ex : Ex} {s : St} {v : List V} {r : Ret} (hfn : P.funcs[f]? = some fn) (hc : fn.body = some c)
  (h : SoundC P hp.length c ⟨Tm.start (vs.length + (fn.ntmps - vs.length)) vs, hp, []⟩ ex s) (hex : ex = .normal ∨ ex = .ret) (hres : evResultL P s.hp s.tm fn.results.toList = some v)
  {ids : List Nat} (hids : permOK hp.length ids = true) (hr : gcC P hp.length ids (oneOf v) s = r) : FnOK P f vs hp r := by
 subst hr
 exact fnOK_of hfn hc h hex hres (fun hst => gcC_tidy hids hst) fun C hR => gcC_sound hids C hR
theorem fnC_ok (hm : P.follows .mixedOrders = true) (hn : Named P) (hb : Bodied P callF) (hc : CallOK P callF) {n : Nat} {frozen : FuncId → Bool} : CallOK P (fnC P callF n frozen) := by
 intro f vs hp r h
 unfold fnC at h
 split at h
 ·rename_i fn hfn
  split at h
  ·rename_i c hbody
   obtain ⟨ex, s, h1, h2⟩ := codeC_ok hm hn hb hc (m := hp.length) h
   split at h2
   ·cases h2
   ·rename_i hex
    split at h2
    ·rename_i v hv
     split at h2
     ·rename_i hp1
      simp only [forceV_eq, forceH_eq, Option.some.injEq] at h2
      refine fnOK_codeC hfn hbody h1 ?_ hv hp1 ?_
      ·cases ex with
       | normal => exact .inl rfl
       | ret => exact .inr rfl
       | exit i => exact absurd rfl (hex i)
      ·rw [← h2]
     ·cases h2
    ·cases h2
  ·cases h
 ·cases h
theorem fnC_bodied {n : Nat} {frozen : FuncId → Bool} : Bodied P (fnC P callF n frozen) := by
 intro f vs hp r h
 unfold fnC at h
 split at h
 ·rename_i fn hfn
  split at h
  ·rename_i c hbody
   exact ⟨fn, hfn, by rw [hbody]; rfl⟩
  ·cases h
 ·cases h
theorem deepC_ok (hm : P.follows .mixedOrders = true) (hn : Named P) {ext : CallF} (hb : Bodied P ext) (hc : CallOK P ext) {n : Nat} {frozen : FuncId → Bool} : ∀ d, CallOK P (deepC P ext n frozen d) ∧ Bodied P (deepC P ext n frozen d)
 | 0 => ⟨fun _ _ _ _ h => (nomatch h), fun _ _ _ _ h => (nomatch h)⟩
 | d + 1 => by
  obtain ⟨h1, h2⟩ := deepC_ok hm hn hb hc (n := n) (frozen := frozen) d
  constructor
  ·intro f vs hp r h
   unfold deepC at h
   split at h
   ·rename_i he; cases h; exact hc _ _ _ _ he
   ·exact fnC_ok hm hn h2 h1 _ _ _ _ h
  ·intro f vs hp r h
   unfold deepC at h
   split at h
   ·rename_i he; exact hb _ _ _ _ he
   ·exact fnC_bodied _ _ _ _ h
end
end Go.Proofs.YtfncaghjfgnnhaaGreatDoor

namespace Go.Proofs.YtfncaghjfgnnhaaGreatDoor
open Go.RowKit
set_option maxRecDepth 100000
theorem disable (w : World) : (callFunc 170 #[]).run Tryz.prog w = .ok (.value (.tuple #[])) w := run_call_mark0 Tryz.func170 (by kernel_rfl) (by kernel_rfl) (by kernel_rfl) .disable (by kernel_rfl) w
theorem enable (w : World) : (callFunc 172 #[]).run Tryz.prog w = .ok (.value (.tuple #[])) w := run_call_mark0 Tryz.func172 (by kernel_rfl) (by kernel_rfl) (by kernel_rfl) .enable (by kernel_rfl) w
theorem acquire (a : Addr) (w : World) : (callFunc 173 #[.pointer (some a)]).run Tryz.prog w = .ok (.value (.tuple #[])) w := run_call_marked Tryz.func173 (by kernel_rfl) (by kernel_rfl) (by kernel_rfl) .acquire (by kernel_rfl) a w
theorem releaseMerge (a : Addr) (w : World) : (callFunc 175 #[.pointer (some a)]).run Tryz.prog w = .ok (.value (.tuple #[])) w := run_call_marked Tryz.func175 (by kernel_rfl) (by kernel_rfl) (by kernel_rfl) .releaseMerge (by kernel_rfl) a w
theorem store_deferred (a : Addr) (x : Value) (u : FrameMode) (w : World) (hc : w.cell? a = some x) (hz : w.frozen? a = false) :
  CallsD Tryz.prog 140 #[.pointer (some a), .bool true] u w fun e u' w' => u' = u ∧ (e = .returned (.tuple #[]) ∧ w' = w.drew.setCell a (.int .u32 1)) := by
 have hc' : w.drew.cell? a = some x := by go_simp
 have hz' : w.drew.frozen? a = false := by go_simp
 have hst := run_call_store (P := Tryz.prog) Tryz.func160 (by kernel_rfl) (by kernel_rfl) (by kernel_rfl) (by kernel_rfl) (k := .u32) (y := 1) hc' hz'
 go_enter_d Tryz.func140, Tryz.ntmps140
 go_wp2
 go_region_calls
 all_goals (go_end0; exact ⟨rfl, rfl⟩)
set_option maxRecDepth 100000 in
set_option maxHeartbeats 1600000 in
theorem unlock_deferred (a : Addr) (u : FrameMode) (w : World) (hc : w.cell? a = some (.int .i32 1)) (hz : w.frozen? a = false) :
  CallsD Tryz.prog 139 #[.pointer (some a)] u w fun e u' w' => u' = u ∧ (e = .returned (.tuple #[]) ∧ w' = w.setCell a (.int .i32 0)) := by
 have hd := disable
 have he := enable
 have hr := releaseMerge
 have hadd := run_call_add (P := Tryz.prog) Tryz.func176 (by kernel_rfl) (by kernel_rfl) (by kernel_rfl) .i32 (by kernel_rfl) (y := -1) (s := 0) hc hz (by simp [go_sem]; rfl)
 have hcv := run_convert_to_unsafe (P := Tryz.prog) (src := 193) (dst := 132) Tryz.underlying193 Tryz.underlying132 (by kernel_rfl) hc
 go_enter_d Tryz.func139, Tryz.ntmps139
 go_wp2
 go_end0
 go_wp2
 go_end0
 exact ⟨rfl, rfl⟩
set_option maxRecDepth 100000 in
set_option maxHeartbeats 1600000 in
theorem lock_free (a : Addr) (w : World) (hc : w.cell? a = some (.int .i32 0)) (hz : w.frozen? a = false) :
  Calls Tryz.prog 138 #[.pointer (some a)] w fun e w' => e = .returned (.tuple #[]) ∧ w' = w.setCell a (.int .i32 1) := by
 have hd := disable
 have he := enable
 have ha := acquire
 have hcas := run_call_cas_hit (P := Tryz.prog) Tryz.func171 (by kernel_rfl) (by kernel_rfl) (by kernel_rfl) .i32 (by kernel_rfl) (y := 1) hc hz
 have hc' : (w.setCell a (.int .i32 1)).cell? a = some (.int .i32 1) := World.cell?_setCell_same w a _ hc
 have hcv := run_convert_to_unsafe (P := Tryz.prog) (src := 193) (dst := 132) Tryz.underlying193 Tryz.underlying132 (by kernel_rfl) hc'
 go_enter Tryz.func138, Tryz.ntmps138
 go_wp2
 first | go_end0 | (simp only [Exit.inBlock, Exit.then]; refine bodyPost_ret (results_none rfl _ _ _) rfl ?_) | refine bodyPost_ret (results_none rfl _ _ _) rfl ?_
 go_wp2
 go_end0
 exact ⟨rfl, rfl⟩
end Go.Proofs.YtfncaghjfgnnhaaGreatDoor

namespace Go.Proofs.YtfncaghjfgnnhaaGreatDoor
open Go.RowKit
set_option maxRecDepth 100000
abbrev fBuildOnce : Nat := 103
structure Held (b off : Nat) (w : World) : Prop where
 h0 : w.cell? ⟨b, off, none⟩ = some (.int .u32 0)
 h1 : w.cell? ⟨b, off + 1, none⟩ = some (.int .i32 1)
 f0 : w.frozen? ⟨b, off, none⟩ = false
 f1 : w.frozen? ⟨b, off + 1, none⟩ = false
set_option maxRecDepth 100000 in
set_option maxHeartbeats 1600000 in
theorem slow_any (b off : Nat) (recv : Value) (R : World → Prop) (w : World)
  (h0 : w.cell? ⟨b, off, none⟩ = some (.int .u32 0)) (h1 : w.cell? ⟨b, off + 1, none⟩ = some (.int .i32 0))
  (f1 : w.frozen? ⟨b, off + 1, none⟩ = false)
  (hf : Calls Tryz.prog 103 #[recv] (w.setCell ⟨b, off + 1, none⟩ (.int .i32 1)) fun e w' => e = .returned (.tuple #[]) ∧ R w') (hR : ∀ w', R w' → Held b off w') :
  Calls Tryz.prog 114 #[.pointer (some ⟨b, off, none⟩), .func (.func 103) #[recv] #[]] w fun e w' => e = .returned (.tuple #[]) ∧
   ∃ w2, R w2 ∧ w' = (w2.drew.setCell ⟨b, off, none⟩ (.int .u32 1)).setCell ⟨b, off + 1, none⟩ (.int .i32 0) := by
 have hl := run_call_load (P := Tryz.prog) Tryz.func137 (by kernel_rfl) (by kernel_rfl) (by kernel_rfl) .u32 (by kernel_rfl) (w := w.setCell ⟨b, off + 1, none⟩ (.int .i32 1)) (a := ⟨b, off, none⟩) (x := 0) ((World.cell?_setCell_other _ ⟨b, off + 1, none⟩ ⟨b, off, none⟩ _ (by simp)).trans h0)
 have hnot : ∀ (x : Bool) (w : World), (Op.unary .not (.bool x)).run Tryz.prog w = .ok (.bool (!x)) w := fun _ _ => rfl
 go_enter_defers Tryz.func114, Tryz.ntmps114
 go_wp2_with (first
  | (go_at_call 138; refine (lock_free ⟨b, off + 1, none⟩ _ (by go_simp) (by go_simp)).mono ?_; rintro e w' ⟨rfl, rfl⟩)
  | (go_at_call 113; go_in)
  | (go_at_call 103; refine hf.mono ?_; rintro e w' ⟨rfl, hr⟩))
 have H := hR _ hr
 refine leaves_cons (f := 140) (args := #[.pointer (some ⟨b, off, none⟩), .bool true]) (by simp) (by simp [go_sem]) ?_
 refine (store_deferred ⟨b, off, none⟩ (.int .u32 0) .returning _ H.h0 H.f0).mono ?_
 rintro e u' w'' ⟨rfl, rfl, rfl⟩
 refine leaves_cons (f := 139) (args := #[.pointer (some ⟨b, off + 1, none⟩)]) (by simp [settle]) (by simp [go_sem]) ?_
 refine (unlock_deferred ⟨b, off + 1, none⟩ _ _ ?_ (by simp [H.f1])).mono ?_
 ·refine (World.cell?_setCell_other _ ⟨b, off, none⟩ ⟨b, off + 1, none⟩ _ (by simp)).trans ?_
  rw [World.cell?_drew]
  exact H.h1
 rintro e u' w'' ⟨rfl, rfl, rfl⟩
 simp [Leaves, settle, results, Tryz.results114]
 exact ⟨_, hr, rfl⟩
set_option maxRecDepth 100000 in
set_option maxHeartbeats 1600000 in
theorem do_first (b off : Nat) (recv : Value) (R : World → Prop) (w : World)
  (h0 : w.cell? ⟨b, off, none⟩ = some (.int .u32 0)) (h1 : w.cell? ⟨b, off + 1, none⟩ = some (.int .i32 0))
  (f1 : w.frozen? ⟨b, off + 1, none⟩ = false)
  (hf : Calls Tryz.prog 103 #[recv] (w.setCell ⟨b, off + 1, none⟩ (.int .i32 1)) fun e w' => e = .returned (.tuple #[]) ∧ R w') (hR : ∀ w', R w' → Held b off w') :
  Calls Tryz.prog 102 #[.pointer (some ⟨b, off, none⟩), .func (.func 103) #[recv] #[]] w fun e w' => e = .returned (.tuple #[]) ∧
   ∃ w2, R w2 ∧ w' = (w2.drew.setCell ⟨b, off, none⟩ (.int .u32 1)).setCell ⟨b, off + 1, none⟩ (.int .i32 0) := by
 have hl := run_call_load (P := Tryz.prog) Tryz.func137 (by kernel_rfl) (by kernel_rfl) (by kernel_rfl) .u32 (by kernel_rfl) h0
 have hnot : ∀ (x : Bool) (w : World), (Op.unary .not (.bool x)).run Tryz.prog w = .ok (.bool (!x)) w := fun _ _ => rfl
 go_enter Tryz.func102, Tryz.ntmps102
 go_wp2_with (first
  | (go_at_call 114; refine (slow_any b off recv R _ h0 h1 f1 hf hR).mono ?_; rintro e w' ⟨rfl, hr⟩)
  | (go_at_call 113; go_in))
 go_end0
 exact ⟨rfl, hr⟩
end Go.Proofs.YtfncaghjfgnnhaaGreatDoor

namespace Go.Proofs.YtfncaghjfgnnhaaGreatDoor
open Go.RowKit
set_option maxRecDepth 100000
section
variable {P : Program} {I I1 I2 : Nat → Prop} {μ μ1 μ2 : Mu} {w w1 w2 : World} {hp hp1 hp2 : Hp}
theorem Good.drew (pre : Pre P I μ w hp (List.range hp.length) hp.length) : Good P I I μ μ w w.drew hp hp (List.range hp.length) [] := by
 have G := Good.same hp pre
 have hE : ∀ X, Evo I w w.drew X := fun X => .drew w X
 refine ⟨.refl _, fun k hk => .inl hk, hE _, .refl _, fun b g h => .inl h, fun _ _ _ => rfl, fun b hb blk h => ?_, fun b hb blk h => ?_, G.inj⟩
 ·exact (G.holds b hb blk h).keep (hE (fun _ => False)) (.refl _) (.refl _) (fun h => h) rfl (fun _ _ h => h) fun g hg => (G.holds b hb blk h).nimm hg
 ·rcases hb with hb | hb
  ·exact absurd (at_lt h) (by omega)
  ·cases hb
theorem splice1 {cs : List V} {j : Nat} {x : V} (h : hasSeal cs = false) (hj : j < cs.length) : spliceV cs j 1 [x] = some (cs.set j x) := by
 unfold spliceV
 rw [h]
 simp only [Option.some.injEq]
 rw [List.set_eq_take_append_cons_drop, if_pos hj]
 simp
theorem Good.setCell {b g j : Nat} {cs : List V} {T : TypeId} {x : V} {v : Value} (pre : Pre P I μ w hp (List.range hp.length) hp.length) (hb : hp[b]? = some (some (cs, T))) (hs : hasSeal cs = false) (hg : μ b = some g) (hj : j < cs.length) (hx : V.R P I μ w x v) (_ : x.one = true) (hT : rowT T = true) :
  ∃ F, Good P I I μ (μ.setFt b F) w (w.setCell ⟨g, j, none⟩ v) hp (hp.set b (some (cs.set j x, T))) (List.range hp.length) [b] := by
 obtain ⟨ar, fr, _, hw, hfr, ⟨hsz, hcr⟩, _⟩ := (pre.holds b (by simpa using at_lt hb) _ hb).real hT hg
 rw [setCell_eq_setRow w g j ar T fr v hw]
 have hn : V.RL P I μ w [x] [v] := by simp only [V.RL]; exact ⟨v, [], rfl, hx, rfl⟩
 have hle : j + 1 ≤ (flat cs).length := by
  have := flat_noSeal hs
  rw [this]; omega
 obtain ⟨hl2, F', hF', hcr2⟩ := splice_sound (splice1 (x := x) hs hj) hcr hn rfl hle
 refine ⟨F', Good.writeC (blk := (cs, T)) (blk' := (cs.set j x, T)) pre (by simpa using at_lt hb) hb hg hw rfl (by simp) hfr hF' ⟨?_, ?_⟩⟩
 ·show (flat (cs.set j x)).length ≤ _
  rw [hl2]; simpa using hsz
 ·show CR P I μ w F' (cs.set j x) _
  rw [hl2]
  have e : (ar.setIfInBounds j v).toList.take (flat cs).length = (ar.toList.take (flat cs).length).take j ++ [v] ++ (ar.toList.take (flat cs).length).drop (j + 1) := by
   rw [Array.toList_setIfInBounds, List.take_set, List.set_eq_take_append_cons_drop, if_pos (by simp only [List.length_take, Array.length_toList]; simp only at hsz; omega)]
   simp
  rw [e]; exact hcr2
end
end Go.Proofs.YtfncaghjfgnnhaaGreatDoor

namespace Go.Proofs.YtfncaghjfgnnhaaGreatDoor
open Go.RowKit
set_option maxRecDepth 100000
abbrev fDo : Nat := 102
theorem Holds.frozen {P : Program} {I : Nat → Prop} {μ : Mu} {w : World} {b g j : Nat} {blk : Blk} (h : Holds P I μ w b blk) (hT : rowT blk.2 = true) (hg : μ b = some g) (hj : j < (flat blk.1).length) : w.frozen? ⟨g, j, none⟩ = false := by
 obtain ⟨cs, fr, _, h2, h3, ⟨h4, _⟩, _⟩ := h.real hT hg
 unfold World.frozen?
 rw [h2]
 obtain ⟨lo, hi⟩ := fr
 simp only at h3 ⊢
 rcases h3 with h3 | h3
 ·by_cases h : lo ≤ j
  ·have : ¬ j < hi := by omega
   simp [this]
  ·simp [h]
 ·have : ¬ lo ≤ j := by omega
  simp [this]
theorem Holds.int {P : Program} {I : Nat → Prop} {μ : Mu} {w : World} {b g j : Nat} {blk : Blk} {k : IntKind} {n : Int} (h : Holds P I μ w b blk) (hT : rowT blk.2 = true) (hg : μ b = some g) (hj : (flat blk.1)[j]? = some (.int k n)) : w.cell? ⟨g, j, none⟩ = some (.int k n) := by
 obtain ⟨u, h1, h2⟩ := h.cell hT hg hj rfl
 simp only [V.R] at h2
 rw [h1, h2]
theorem FnOK.once {rest0 rest2 : List V} {T : TypeId} {hp hp2 : Hp} {wr : List Nat} (hs0 : hasSeal rest0 = false) (hs2 : hasSeal rest2 = false) (hT : rowT T = true)
  (h : FnOK Tryz.prog fBuildOnce [.ptr 0 0] (some (.int .u32 0 :: .int .i32 1 :: rest0, T) :: hp) ⟨.tup [], some (.int .u32 0 :: .int .i32 1 :: rest2, T) :: hp2, wr⟩) :
  FnOK Tryz.prog fDo [.ptr 0 0, .box (.bound fBuildOnce 1) [.ptr 0 0]] (some (.int .u32 0 :: .int .i32 0 :: rest0, T) :: hp) ⟨.tup [], some (.int .u32 1 :: .int .i32 0 :: rest2, T) :: hp2, 0 :: wr⟩ := by
 have hs0' : ∀ a b : Int, hasSeal (.int .u32 a :: .int .i32 b :: rest0) = false := fun a b => by simp [hasSeal, hs0]
 have hs2' : ∀ a b : Int, hasSeal (.int .u32 a :: .int .i32 b :: rest2) = false := fun a b => by simp [hasSeal, hs2]
 obtain ⟨ht, hm⟩ := h
 have hlen : hp.length ≤ hp2.length := by simpa using ht.len
 refine ⟨⟨by simpa using hlen, fun b hb hn => ?_, fun b hb => ?_, fun b hb ha => ?_⟩, fun I w μ vals hv pre hdom => ?_⟩
 ·simp only [List.mem_cons, not_or] at hn
  have := ht.frame b hb hn.2
  rcases b with _ | b
  ·exact absurd rfl hn.1
  ·exact this
 ·rcases List.mem_cons.1 hb with rfl | hb
  ·simp
  ·exact ht.wrb b hb
 ·rcases b with _ | b
  ·exact ⟨_, rfl⟩
  ·exact ht.alive (b + 1) hb ha
 simp only [V.RL, V.R] at hv
 obtain ⟨_, _, hvals, ⟨g, hg, rfl⟩, _, _, rfl, ⟨vs, rfl, _, _, hvs, ⟨g', hg', rfl⟩, rfl⟩, rfl⟩ := hv
 rw [hg] at hg'; cases hg'
 obtain rfl : vs = #[.pointer (some ⟨g, 0, none⟩)] := by cases vs; simp_all
 have hvals : vals = #[.pointer (some ⟨g, 0, none⟩), .func (.func fBuildOnce) #[.pointer (some ⟨g, 0, none⟩)] #[]] := by
  cases vals
  simp only at hvals
  rw [hvals]
  simp [BK.mk]
 subst hvals
 have pre0 := pre.top (top' := (some (.int .u32 0 :: .int .i32 0 :: rest0, T) :: hp : Hp).length) (by simpa using hlen)
 have H0 := pre0.holds 0 (by simp) _ rfl
 have e0 : ∀ (a b : Int) (r : List V), hasSeal r = false → flat (.int .u32 a :: .int .i32 b :: r) = .int .u32 a :: .int .i32 b :: r := fun a b r hr => flat_noSeal (by simp [hasSeal, hr])
 obtain ⟨F1, G1⟩ := Good.setCell (j := 1) (x := .int .i32 1) (v := .int .i32 1) pre0 rfl (hs0' 0 0) hg (by simp) (by simp [V.R]) rfl hT
 simp only [List.set_cons_zero, List.set_cons_succ] at G1
 have pre1 := G1.pre (by simp) pre0 hdom (hp2.length + 1)
 have hcall := hm I _ (μ.setFt 0 F1) #[.pointer (some ⟨g, 0, none⟩)] (by simp only [V.RL, V.R]; exact ⟨_, [], rfl, ⟨g, hg, rfl⟩, rfl⟩) pre1 (fun b k hk => hdom b k hk)
 refine (do_first g 0 (.pointer (some ⟨g, 0, none⟩)) (fun w2 => ∃ μ2 I2, Good Tryz.prog I I2 (μ.setFt 0 F1) μ2 (w.setCell ⟨g, 1, none⟩ (.int .i32 1)) w2 (some (.int .u32 0 :: .int .i32 1 :: rest0, T) :: hp) (some (.int .u32 0 :: .int .i32 1 :: rest2, T) :: hp2) (List.range (some (.int .u32 0 :: .int .i32 1 :: rest0, T) :: hp : Hp).length) wr) w
  (H0.int hT hg (by rw [e0 0 0 _ hs0]; rfl)) (H0.int hT hg (by rw [e0 0 0 _ hs0]; rfl)) (H0.frozen hT hg (by rw [e0 0 0 _ hs0]; simp)) ?_ ?_).mono ?_
 ·refine hcall.mono ?_
  rintro e w' ⟨val, μ', I', rfl, hR, G⟩
  simp only [V.R, V.RL] at hR
  obtain ⟨vs, rfl, hvs⟩ := hR
  obtain rfl : vs = #[] := by cases vs; simp_all
  exact ⟨rfl, μ', I', G⟩
 ·rintro w2 ⟨μ2, I2, G2⟩
  have H2 := G2.holds 0 (.inl (by simp)) _ rfl
  have hg2 := G2.le 0 g hg
  exact ⟨H2.int hT hg2 (by rw [e0 0 1 _ hs2]; rfl), H2.int hT hg2 (by rw [e0 0 1 _ hs2]; rfl), H2.frozen hT hg2 (by rw [e0 0 1 _ hs2]; simp), H2.frozen hT hg2 (by rw [e0 0 1 _ hs2]; simp)⟩
 ·rintro e w' ⟨rfl, w2, ⟨μ2, I2, G2⟩, rfl⟩
  have hg2 := G2.le 0 g hg
  have wrb : ∀ b ∈ wr, b < hp.length + 1 := fun b hb => by simpa using ht.wrb b hb
  have G12 := G1.trans (wr := 0 :: wr) G2 (by simp) (by simpa using hlen) (fun b hb => by simpa using wrb b hb) (fun b hb ha => by
   rcases b with _ | b
   ·exact ⟨_, rfl⟩
   ·exact ha) (fun b hb ha => ht.alive b hb ha) (fun b _ hb => by simp at hb; subst hb; exact ⟨_, rfl⟩) (fun b hb => by simp at hb; simp [hb]) (fun b hb => by simp [hb])
  have dom2 : ∀ b k, μ2 b = some k → b < hp2.length + 1 := fun b k hk => by
   rcases G12.dom b k hk with h | h
   ·have := hdom b k h; simp at this; omega
   ·simpa using h.2
  have pre2 := G12.pre (by simpa using hlen) pre0 hdom (hp2.length + 1)
  have G3 := Good.drew pre2
  obtain ⟨F4, G4⟩ := Good.setCell (j := 0) (x := .int .u32 1) (v := .int .u32 1) (G3.pre (Nat.le_refl _) pre2 dom2 (hp2.length + 1)) rfl (hs2' 0 1) hg2 (by simp) (by simp [V.R]) rfl hT
  have G34 := G3.trans (wr := [0]) G4 (Nat.le_refl _) (by simp) (fun b hb => by simp at hb; simp [hb]) (fun b hb ha => ha) (fun b hb ha => by
   rcases b with _ | b
   ·exact ⟨_, rfl⟩
   ·exact ha) (fun b hb _ => by simp at hb; subst hb; exact ⟨_, rfl⟩) (fun b hb => by simp at hb) (fun b hb => hb)
  simp only [List.set_cons_zero] at G34 G4
  have pre4 := G34.pre (by simp) pre2 dom2 (hp2.length + 1)
  obtain ⟨F5, G5⟩ := Good.setCell (j := 1) (x := .int .i32 0) (v := .int .i32 0) pre4 rfl (hs2' 1 1) hg2 (by simp) (by simp [V.R]) rfl hT
  simp only [List.set_cons_zero, List.set_cons_succ] at G5
  have G345 := G34.trans (wr := [0]) G5 (by simp) (by simp) (fun b hb => by simp at hb; simp [hb]) (fun b hb ha => by
   rcases b with _ | b
   ·exact ⟨_, rfl⟩
   ·exact ha) (fun b hb ha => by
   rcases b with _ | b
   ·exact ⟨_, rfl⟩
   ·exact ha) (fun b hb _ => by simp at hb; subst hb; exact ⟨_, rfl⟩) (fun b hb => hb) (fun b hb => hb)
  have GG := G12.trans (wr := 0 :: wr) G345 (by simpa using hlen) (by simp) (fun b hb => by simp at hb; simp [hb]) (fun b hb ha => by
   rcases b with _ | b
   ·exact ⟨_, rfl⟩
   ·exact ht.alive (b + 1) hb ha) (fun b hb ha => by
   rcases b with _ | b
   ·exact ⟨_, rfl⟩
   ·exact ha) (fun b hb _ => by simp at hb; subst hb; exact ⟨_, rfl⟩) (fun b hb => hb) (fun b hb => by simp at hb; simp [hb])
  exact ⟨.tuple #[], _, I2, rfl, by simp [V.R, V.RL], GG⟩
end Go.Proofs.YtfncaghjfgnnhaaGreatDoor

namespace Go.Proofs.YtfncaghjfgnnhaaGreatDoor
open Go.RowKit
set_option maxRecDepth 100000
def noExt : CallF := fun _ _ _ => none
def noFz : FuncId → Bool := fun _ => false
theorem noExt_ok : CallOK Tryz.prog noExt := fun _ _ _ _ h => by cases h
theorem noExt_bodied : Bodied Tryz.prog noExt := fun _ _ _ _ h => by cases h
section
variable {β : Type _}
def normN (m : Nat) (k : Nat → β) : β := match m with
 | 0 => k 0
 | p + 1 => k (p + 1)
def normI (n : Int) (k : Int → β) : β := match n with
 | .ofNat m => normN m fun m => k (.ofNat m)
 | .negSucc m => normN m fun m => k (.negSucc m)
def norSt (l : List UInt8) (k : List UInt8 → β) : β := match l with
 | [] => k []
 | x :: t => norSt t fun t => k (x :: t)
def normB (b : Bool) (k : Bool → β) : β := match b with
 | true => k true
 | false => k false
mutual
def normV : V → (V → β) → β
 | .int a n, k => normI n fun n => k (.int a n)
 | .bool b, k => normB b fun b => k (.bool b)
 | .str s, k => norSt s fun s => k (.str s)
 | .nilp, k => k .nilp
 | .ptr b o, k => normN b fun b => normN o fun o => k (.ptr b o)
 | .sl b o n f, k => normN b fun b => normN o fun o => normN n fun n => normB f fun f => k (.sl b o n f)
 | .dsl n f cs, k => normN n fun n => normB f fun f => normVL cs fun cs => k (.dsl n f cs)
 | .dptr cs, k => normVL cs fun cs => k (.dptr cs)
 | .sld cs, k => normVL cs fun cs => k (.sld cs)
 | .slo cs, k => normVL cs fun cs => k (.slo cs)
 | .eptr b o r, k => normN b fun b => normN o fun o => normN r fun r => k (.eptr b o r)
 | .osl T n o cs, k => normN T fun T => normN n fun n => normB o fun o => normVL cs fun cs => k (.osl T n o cs)
 | .agg cs, k => normVL cs fun cs => k (.agg cs)
 | .tup cs, k => normVL cs fun cs => k (.tup cs)
 | .fn f cs, k => normVL cs fun cs => k (.fn f cs)
 | .box f cs, k => normVL cs fun cs => k (.box f cs)
 | .nilf, k => k .nilf
 | .lit u, k => k (.lit u)
 | .junk, k => k .junk
def normVL : List V → (List V → β) → β
 | [], k => k []
 | x :: t, k => normV x fun x => normVL t fun t => k (x :: t)
end
def normH (hp : Hp) (k : Hp → β) : β := match hp with
 | [] => k []
 | none :: t => normH t fun t => k (none :: t)
 | some (cs, ty) :: t => normVL cs fun cs => normN ty fun ty => normH t fun t => k (some (cs, ty) :: t)
def normW (l : List Nat) (k : List Nat → β) : β := match l with
 | [] => k []
 | x :: t => normN x fun x => normW t fun t => k (x :: t)
def normR (r : Ret) (k : Ret → β) : β := normV r.v fun v => normH r.hp fun h => normW r.wr fun w => k ⟨v, h, w⟩
theorem normN_eq (m : Nat) (k : Nat → β) : normN m k = k m := by cases m <;> rfl
theorem normI_eq (n : Int) (k : Int → β) : normI n k = k n := by cases n <;> simp only [normI, normN_eq]
theorem norSt_eq : ∀ (l : List UInt8) (k : List UInt8 → β), norSt l k = k l
 | [], _ => rfl
 | x :: t, k => by unfold norSt; rw [norSt_eq t]
theorem normB_eq (b : Bool) (k : Bool → β) : normB b k = k b := by cases b <;> rfl
mutual
theorem normV_eq : ∀ (v : V) (k : V → β), normV v k = k v
 | .int a n, k => by simp only [normV, normI_eq]
 | .bool b, k => by simp only [normV, normB_eq]
 | .str s, k => by simp only [normV, norSt_eq]
 | .nilp, k => rfl
 | .ptr b o, k => by simp only [normV, normN_eq]
 | .sl b o n f, k => by simp only [normV, normN_eq, normB_eq]
 | .dsl n f cs, k => by simp only [normV, normN_eq, normB_eq, normVL_eq cs]
 | .dptr cs, k => by simp only [normV, normVL_eq cs]
 | .sld cs, k => by simp only [normV, normVL_eq cs]
 | .slo cs, k => by simp only [normV, normVL_eq cs]
 | .eptr b o r, k => by simp only [normV, normN_eq]
 | .osl T n o cs, k => by simp only [normV, normN_eq, normB_eq, normVL_eq cs]
 | .agg cs, k => by simp only [normV, normVL_eq cs]
 | .tup cs, k => by simp only [normV, normVL_eq cs]
 | .fn f cs, k => by simp only [normV, normVL_eq cs]
 | .box f cs, k => by simp only [normV, normVL_eq cs]
 | .nilf, k => rfl
 | .lit u, k => rfl
 | .junk, k => rfl
theorem normVL_eq : ∀ (l : List V) (k : List V → β), normVL l k = k l
 | [], k => rfl
 | x :: t, k => by simp only [normVL, normV_eq x, normVL_eq t]
end
theorem normH_eq : ∀ (hp : Hp) (k : Hp → β), normH hp k = k hp
 | [], _ => rfl
 | none :: t, k => by unfold normH; rw [normH_eq t]
 | some (cs, ty) :: t, k => by unfold normH; rw [normVL_eq, normN_eq, normH_eq t]
theorem normW_eq : ∀ (l : List Nat) (k : List Nat → β), normW l k = k l
 | [], _ => rfl
 | x :: t, k => by unfold normW; rw [normN_eq, normW_eq t]
theorem normR_eq (r : Ret) (k : Ret → β) : normR r k = k r := by unfold normR; rw [normV_eq, normH_eq, normW_eq]
end
noncomputable def deepN (f : FuncId) (vs : List V) (hp : Hp) : Option Ret := match deepC Tryz.prog noExt 1000 noFz 60 f vs hp with
 | some r => normR r fun r => some r
 | none => none
theorem deepN_ok {f : FuncId} {vs : List V} {hp : Hp} {r : Ret} (h : deepN f vs hp = some r) : FnOK Tryz.prog f vs hp r := by
 unfold deepN at h
 split at h
 ·rename_i r' hr; rw [normR_eq] at h; cases h; exact (deepC_ok follows named noExt_bodied noExt_ok _).1 _ _ _ _ hr
 ·cases h
end Go.Proofs.YtfncaghjfgnnhaaGreatDoor

namespace Go.Proofs.YtfncaghjfgnnhaaGreatDoor
open Go.RowKit
set_option maxRecDepth 100000
theorem FnOK.dead {P : Program} {f : FuncId} {vs : List V} {hp : Hp} {r : Ret} (h : FnOK P f vs hp r) (hv : V.refs r.v = []) :
  FnOK P f vs hp ⟨r.v, List.replicate hp.length none, List.range hp.length⟩ := by
 obtain ⟨ht, hmain⟩ := h
 have hno : ∀ b blk, (List.replicate hp.length (none : Option Blk))[b]? = some (some blk) → False := fun b blk h => by
  rw [List.getElem?_replicate] at h; split at h <;> cases h
 refine ⟨⟨by simp, fun b hb hn => absurd (List.mem_range.2 hb) hn, fun b hb => List.mem_range.1 hb, fun b hb ⟨blk, hal⟩ => (hno b blk hal).elim⟩, fun I w μ vals hvals pre hdom => ?_⟩
 have pre' : Pre P I μ w hp (List.range hp.length) r.hp.length := ⟨pre.ilt, pre.holds, pre.inj, fun b h1 _ => by
  cases hb : μ b with
  | none => rfl
  | some g => have := hdom b g hb; omega⟩
 refine (hmain I w μ vals hvals pre' hdom).mono fun e w' ⟨val, μ', I', he, hR, G⟩ => ⟨val, μ, I', he, ?_, ?_⟩
 ·obtain ⟨_, _, e2, h2, _⟩ := (RL_nomu [r.v] [val] (by simp [V.refsL, hv]) ⟨val, [], rfl, hR, rfl⟩ : V.RL P I' noMu w' [r.v] [val])
  cases e2
  exact h2.keep (.refl w' (fun _ => False)) (.refl _) (fun b g hb => by cases hb)
 ·refine ⟨G.isub, fun k hk => ?_, G.evo.mono fun k ⟨b, hb, hg⟩ => ⟨b, List.mem_range.2 (ht.wrb b hb), hg⟩, .refl _, fun b g h => .inl h, fun _ _ _ => rfl, fun b hb blk h => (hno b blk h).elim, fun b hb blk h => (hno b blk h).elim, fun b c b1 b2 g hne hb hc h1 => (hno b b1 h1).elim⟩
  rcases G.igrow k hk with h | h | ⟨c, h1, h2, h3⟩
  ·exact .inl h
  ·exact .inr (.inl h)
  ·exact .inr (.inr ⟨c, List.mem_range.2 (ht.wrb c h1), h2, h3⟩)
theorem dead_TL {E : Env} (hm : E.P.follows .mixedOrders = true) (hn : Named E.P) {mode : Nat} {f : FuncId} {vs : List V} {hp : Hp} {v : V} {t : T Ret} (e : fnT E mode f vs hp = t) (hv : V.refs v = []) (h : t.WP (·.v = v)) : FnOK E.P f vs hp ⟨v, List.replicate hp.length none, List.range hp.length⟩ := by
 subst e
 obtain ⟨r', h1, rfl⟩ := fnT_ok hm hn h
 exact h1.dead hv
end Go.Proofs.YtfncaghjfgnnhaaGreatDoor

namespace Go.Proofs.YtfncaghjfgnnhaaGreatDoor
open Go.RowKit
set_option maxRecDepth 100000
abbrev fQuoted : Nat := 53
abbrev fNewRep : Nat := 81
abbrev fReplace : Nat := 82
abbrev fByteRep : Nat := 213
abbrev tRep : Nat := 116
abbrev tByteRep : Nat := 157
abbrev tPByteRep : Nat := 158
def oldB : Option Blk := some ([.sld [], .str [34], .str [92, 34], .str [92], .str [92, 92]], 9)
def strs4 : Option Blk := some ([.str [34], .str [92, 34], .str [92], .str [92, 92]], 9)
def nilS : V := .lit (.slice none 0 0)
def repL (a b c : V) : List V := List.replicate 34 nilS ++ [a] ++ List.replicate 57 nilS ++ [b] ++ List.replicate 163 nilS ++ [c]
def repB (k : Nat) : Option Blk := some (repL (.sl k 0 2 false) (.sl (k + 1) 0 2 false) (.sl (k + 2) 0 2 false), tByteRep)
def s34 : Option Blk := some ([.sld [.int .u8 92, .int .u8 34]], 5)
def s92 : Option Blk := some ([.sld [.int .u8 92, .int .u8 92]], 5)
def trB : Option Blk := some ([.str [92], .str [34]], 9)
set_option maxRecDepth 100000 in
theorem newRep_ok : FnOK Tryz.prog fNewRep [.sl 0 0 4 true] [strs4] ⟨.ptr 1 0, [strs4, some ([.int .u32 0, .int .i32 0, .int .u32 0, .lit .nilIface, .sl 2 0 4 false], tRep), oldB], []⟩ := deepN_ok (by kernel_rfl)
set_option maxRecDepth 100000 in
theorem build_ok : FnOK Tryz.prog fBuildOnce [.ptr 0 0] [some ([.int .u32 0, .int .i32 1, .int .u32 0, .lit .nilIface, .sl 1 0 4 false], tRep), oldB] ⟨.tup [], [some ([.int .u32 0, .int .i32 1, .int .u32 0, .box (.iface tPByteRep) [.ptr 2 0], .dsl 0 true []], tRep), oldB, repB 3, s34, s92, trB], [0]⟩ := deepN_ok (by kernel_rfl)
theorem do_ok : FnOK Tryz.prog fDo [.ptr 0 0, .box (.bound fBuildOnce 1) [.ptr 0 0]] [some ([.int .u32 0, .int .i32 0, .int .u32 0, .lit .nilIface, .sl 1 0 4 false], tRep), oldB] ⟨.tup [], [some ([.int .u32 1, .int .i32 0, .int .u32 0, .box (.iface tPByteRep) [.ptr 2 0], .dsl 0 true []], tRep), oldB, repB 3, s34, s92, trB], [0, 0]⟩ :=
 FnOK.once rfl rfl rfl build_ok
theorem replaceIs : MethodIs Tryz.prog tPByteRep "Replace" fByteRep := fun v args w => by kernel_rfl
def ByteRep (g : List UInt8 → List UInt8) (n : Nat) : Prop := ∀ t : List UInt8, t.length ≤ n → FnOK Tryz.prog fByteRep [.ptr 0 0, .str t] [repB 1, s34, s92, trB] ⟨.str (g t), [repB 1, s34, s92, trB], []⟩
noncomputable def resRep (g : List UInt8 → List UInt8) : ResT := fun f vs _ => match vs with
 | [.sl 0 0 4 true] => bif Nat.beq f fNewRep then some ⟨(), fun _ => ⟨.ptr 1 0, [strs4, some ([.int .u32 0, .int .i32 0, .int .u32 0, .lit .nilIface, .sl 2 0 4 false], tRep), oldB], []⟩⟩ else none
 | [.ptr 0 0, .box _ _] => bif Nat.beq f fDo then some ⟨(), fun _ => ⟨.tup [], [some ([.int .u32 1, .int .i32 0, .int .u32 0, .box (.iface tPByteRep) [.ptr 2 0], .dsl 0 true []], tRep), oldB, repB 3, s34, s92, trB], [0, 0]⟩⟩ else none
 | [.ptr 0 0, .str t] => bif Nat.beq f fByteRep then some ⟨g t, fun y => ⟨.str y, [repB 1, s34, s92, trB], []⟩⟩
   else bif Nat.beq f fReplace then some ⟨g t, fun y => ⟨.str y, [none, none], [0, 1]⟩⟩ else none
 | _ => none
noncomputable def ERep (g : List UInt8 → List UInt8) : Env := { P := Tryz.prog, vw := fun _ _ _ => none, res := resRep g, mt := [(tPByteRep, "Replace", fByteRep)] }
set_option maxRecDepth 100000 in
theorem replaceT (g : List UInt8 → List UInt8) (t : List UInt8) : fnT (ERep g) 2 fReplace [.ptr 0 0, .str t] [some ([.int .u32 0, .int .i32 0, .int .u32 0, .lit .nilIface, .sl 1 0 4 false], tRep), oldB] = (
 .bind PUnit.unit fun _ => .need [FnOK Tryz.prog 102 [.ptr 0 0, .box (BK.bound 103 1) [.ptr 0 0]] [some ([.int .u32 0, .int .i32 0, .int .u32 0, .lit Value.nilIface, .sl 1 0 4 false], 116), some ([.sld [], .str [34], .str [92, 34], .str
 [92], .str [92, 92]], 9)] (Ret.mk (.tup []) [some ([.int .u32 1, .int .i32 0, .int .u32 0, .box (BK.iface 158) [.ptr 2 0], .dsl 0 true []], 116), some ([.sld [], .str [34], .str [92, 34], .str [92], .str [92, 92]], 9), some ((repL (.sl 3 0
 2 false) (.sl 4 0 2 false) (.sl 5 0 2 false)), 157), some ([.sld [.int .u8 92, .int .u8 34]], 5), some ([.sld [.int .u8 92, .int .u8 92]], 5), some ([.str [92], .str [34]], 9)] [0, 0])] (.need [158 = 158, "Replace" = "Replace", MethodIs
 Tryz.prog 158 "Replace" 213] (.bind (g t) fun y1 => .need [FnOK Tryz.prog 213 [.ptr 0 0, .str t] [some ((repL (.sl 1 0 2 false) (.sl 2 0 2 false) (.sl 3 0 2 false)), 157), some ([.sld [.int .u8 92, .int .u8 34]], 5), some ([.sld [.int .u8
 92, .int .u8 92]], 5), some ([.str [92], .str [34]], 9)] (Ret.mk (.str y1) [some ((repL (.sl 1 0 2 false) (.sl 2 0 2 false) (.sl 3 0 2 false)), 157), some ([.sld [.int .u8 92, .int .u8 34]], 5), some ([.sld [.int .u8 92, .int .u8 92]], 5),
 some ([.str [92], .str [34]], 9)] [])] (.done (Ret.mk (.str y1) [some ([.int .u32 1, .int .i32 0, .int .u32 0, .box (BK.iface 158) [.ptr 2 0], .dsl 0 true []], 116), some ([.sld [], .str [34], .str [92, 34], .str [92], .str [92, 92]], 9),
 some ([.sld [.lit (Value.slice none 0 0), .lit (Value.slice none 0 0), .lit (Value.slice none 0 0), .lit (Value.slice none 0 0), .lit (Value.slice none 0 0), .lit (Value.slice none 0 0), .lit (Value.slice none 0 0), .lit (Value.slice none 0
 0), .lit (Value.slice none 0 0), .lit (Value.slice none 0 0), .lit (Value.slice none 0 0), .lit (Value.slice none 0 0), .lit (Value.slice none 0 0), .lit (Value.slice none 0 0), .lit (Value.slice none 0 0), .lit (Value.slice none 0 0), .lit
 (Value.slice none 0 0), .lit (Value.slice none 0 0), .lit (Value.slice none 0 0), .lit (Value.slice none 0 0), .lit (Value.slice none 0 0), .lit (Value.slice none 0 0), .lit (Value.slice none 0 0), .lit (Value.slice none 0 0), .lit
 (Value.slice none 0 0), .lit (Value.slice none 0 0), .lit (Value.slice none 0 0), .lit (Value.slice none 0 0), .lit (Value.slice none 0 0), .lit (Value.slice none 0 0), .lit (Value.slice none 0 0), .lit (Value.slice none 0 0), .lit
 (Value.slice none 0 0), .lit (Value.slice none 0 0), .dsl 2 false [.int .u8 92, .int .u8 34], .lit (Value.slice none 0 0), .lit (Value.slice none 0 0), .lit (Value.slice none 0 0), .lit (Value.slice none 0 0), .lit (Value.slice none 0 0),
 .lit (Value.slice none 0 0), .lit (Value.slice none 0 0), .lit (Value.slice none 0 0), .lit (Value.slice none 0 0), .lit (Value.slice none 0 0), .lit (Value.slice none 0 0), .lit (Value.slice none 0 0), .lit (Value.slice none 0 0), .lit
 (Value.slice none 0 0), .lit (Value.slice none 0 0), .lit (Value.slice none 0 0), .lit (Value.slice none 0 0), .lit (Value.slice none 0 0), .lit (Value.slice none 0 0), .lit (Value.slice none 0 0), .lit (Value.slice none 0 0), .lit
 (Value.slice none 0 0), .lit (Value.slice none 0 0), .lit (Value.slice none 0 0), .lit (Value.slice none 0 0), .lit (Value.slice none 0 0), .lit (Value.slice none 0 0), .lit (Value.slice none 0 0), .lit (Value.slice none 0 0), .lit
 (Value.slice none 0 0), .lit (Value.slice none 0 0), .lit (Value.slice none 0 0), .lit (Value.slice none 0 0), .lit (Value.slice none 0 0), .lit (Value.slice none 0 0), .lit (Value.slice none 0 0), .lit (Value.slice none 0 0), .lit
 (Value.slice none 0 0), .lit (Value.slice none 0 0), .lit (Value.slice none 0 0), .lit (Value.slice none 0 0), .lit (Value.slice none 0 0), .lit (Value.slice none 0 0), .lit (Value.slice none 0 0), .lit (Value.slice none 0 0), .lit
 (Value.slice none 0 0), .lit (Value.slice none 0 0), .lit (Value.slice none 0 0), .lit (Value.slice none 0 0), .lit (Value.slice none 0 0), .lit (Value.slice none 0 0), .lit (Value.slice none 0 0), .lit (Value.slice none 0 0), .lit
 (Value.slice none 0 0), .lit (Value.slice none 0 0), .lit (Value.slice none 0 0), .lit (Value.slice none 0 0), .dsl 2 false [.int .u8 92, .int .u8 92], .lit (Value.slice none 0 0), .lit (Value.slice none 0 0), .lit (Value.slice none 0 0),
 .lit (Value.slice none 0 0), .lit (Value.slice none 0 0), .lit (Value.slice none 0 0), .lit (Value.slice none 0 0), .lit (Value.slice none 0 0), .lit (Value.slice none 0 0), .lit (Value.slice none 0 0), .lit (Value.slice none 0 0), .lit
 (Value.slice none 0 0), .lit (Value.slice none 0 0), .lit (Value.slice none 0 0), .lit (Value.slice none 0 0), .lit (Value.slice none 0 0), .lit (Value.slice none 0 0), .lit (Value.slice none 0 0), .lit (Value.slice none 0 0), .lit
 (Value.slice none 0 0), .lit (Value.slice none 0 0), .lit (Value.slice none 0 0), .lit (Value.slice none 0 0), .lit (Value.slice none 0 0), .lit (Value.slice none 0 0), .lit (Value.slice none 0 0), .lit (Value.slice none 0 0), .lit
 (Value.slice none 0 0), .lit (Value.slice none 0 0), .lit (Value.slice none 0 0), .lit (Value.slice none 0 0), .lit (Value.slice none 0 0), .lit (Value.slice none 0 0), .lit (Value.slice none 0 0), .lit (Value.slice none 0 0), .lit
 (Value.slice none 0 0), .lit (Value.slice none 0 0), .lit (Value.slice none 0 0), .lit (Value.slice none 0 0), .lit (Value.slice none 0 0), .lit (Value.slice none 0 0), .lit (Value.slice none 0 0), .lit (Value.slice none 0 0), .lit
 (Value.slice none 0 0), .lit (Value.slice none 0 0), .lit (Value.slice none 0 0), .lit (Value.slice none 0 0), .lit (Value.slice none 0 0), .lit (Value.slice none 0 0), .lit (Value.slice none 0 0), .lit (Value.slice none 0 0), .lit
 (Value.slice none 0 0), .lit (Value.slice none 0 0), .lit (Value.slice none 0 0), .lit (Value.slice none 0 0), .lit (Value.slice none 0 0), .lit (Value.slice none 0 0), .lit (Value.slice none 0 0), .lit (Value.slice none 0 0), .lit
 (Value.slice none 0 0), .lit (Value.slice none 0 0), .lit (Value.slice none 0 0), .lit (Value.slice none 0 0), .lit (Value.slice none 0 0), .lit (Value.slice none 0 0), .lit (Value.slice none 0 0), .lit (Value.slice none 0 0), .lit
 (Value.slice none 0 0), .lit (Value.slice none 0 0), .lit (Value.slice none 0 0), .lit (Value.slice none 0 0), .lit (Value.slice none 0 0), .lit (Value.slice none 0 0), .lit (Value.slice none 0 0), .lit (Value.slice none 0 0), .lit
 (Value.slice none 0 0), .lit (Value.slice none 0 0), .lit (Value.slice none 0 0), .lit (Value.slice none 0 0), .lit (Value.slice none 0 0), .lit (Value.slice none 0 0), .lit (Value.slice none 0 0), .lit (Value.slice none 0 0), .lit
 (Value.slice none 0 0), .lit (Value.slice none 0 0), .lit (Value.slice none 0 0), .lit (Value.slice none 0 0), .lit (Value.slice none 0 0), .lit (Value.slice none 0 0), .lit (Value.slice none 0 0), .lit (Value.slice none 0 0), .lit
 (Value.slice none 0 0), .lit (Value.slice none 0 0), .lit (Value.slice none 0 0), .lit (Value.slice none 0 0), .lit (Value.slice none 0 0), .lit (Value.slice none 0 0), .lit (Value.slice none 0 0), .lit (Value.slice none 0 0), .lit
 (Value.slice none 0 0), .lit (Value.slice none 0 0), .lit (Value.slice none 0 0), .lit (Value.slice none 0 0), .lit (Value.slice none 0 0), .lit (Value.slice none 0 0), .lit (Value.slice none 0 0), .lit (Value.slice none 0 0), .lit
 (Value.slice none 0 0), .lit (Value.slice none 0 0), .lit (Value.slice none 0 0), .lit (Value.slice none 0 0), .lit (Value.slice none 0 0), .lit (Value.slice none 0 0), .lit (Value.slice none 0 0), .lit (Value.slice none 0 0), .lit
 (Value.slice none 0 0), .lit (Value.slice none 0 0), .lit (Value.slice none 0 0), .lit (Value.slice none 0 0), .lit (Value.slice none 0 0), .lit (Value.slice none 0 0), .lit (Value.slice none 0 0), .lit (Value.slice none 0 0), .lit
 (Value.slice none 0 0), .lit (Value.slice none 0 0), .lit (Value.slice none 0 0), .lit (Value.slice none 0 0), .lit (Value.slice none 0 0), .lit (Value.slice none 0 0), .lit (Value.slice none 0 0), .lit (Value.slice none 0 0), .lit
 (Value.slice none 0 0), .lit (Value.slice none 0 0), .lit (Value.slice none 0 0), .lit (Value.slice none 0 0), .lit (Value.slice none 0 0), .lit (Value.slice none 0 0), .lit (Value.slice none 0 0), .lit (Value.slice none 0 0), .lit
 (Value.slice none 0 0), .lit (Value.slice none 0 0), .lit (Value.slice none 0 0), .lit (Value.slice none 0 0), .lit (Value.slice none 0 0), .lit (Value.slice none 0 0), .lit (Value.slice none 0 0), .lit (Value.slice none 0 0), .lit
 (Value.slice none 0 0), .lit (Value.slice none 0 0), .lit (Value.slice none 0 0), .lit (Value.slice none 0 0), .lit (Value.slice none 0 0), .lit (Value.slice none 0 0), .lit (Value.slice none 0 0), .lit (Value.slice none 0 0), .lit
 (Value.slice none 0 0), .lit (Value.slice none 0 0), .lit (Value.slice none 0 0), .lit (Value.slice none 0 0), .lit (Value.slice none 0 0), .lit (Value.slice none 0 0), .lit (Value.slice none 0 0), .lit (Value.slice none 0 0), .dsl 2 false
 [.str [92], .str [34]]]], 157)] [0])))) : T _) := (T.force_eq _).symm.trans (by kernel_rfl)
set_option maxRecDepth 100000 in
theorem quotedT (g : List UInt8 → List UInt8) (t : List UInt8) : fnT (ERep g) 0 fQuoted [.str t] [] = (
 .bind PUnit.unit fun _ => .need [FnOK Tryz.prog 81 [.sl 0 0 4 true] [some ([.str [34], .str [92, 34], .str [92], .str [92, 92]], 9)] (Ret.mk (.ptr 1 0) [some ([.str [34], .str [92, 34], .str [92], .str [92, 92]], 9), some ([.int .u32 0,
 .int .i32 0, .int .u32 0, .lit Value.nilIface, .sl 2 0 4 false], 116), some ([.sld [], .str [34], .str [92, 34], .str [92], .str [92, 92]], 9)] [])] (.bind (g t) fun y1 => .need [FnOK Tryz.prog 82 [.ptr 0 0, .str t] [some ([.int .u32 0,
 .int .i32 0, .int .u32 0, .lit Value.nilIface, .sl 1 0 4 false], 116), some ([.sld [], .str [34], .str [92, 34], .str [92], .str [92, 92]], 9)] (Ret.mk (.str y1) [none, none] [0, 1])] (.need [1 + y1.length ≤ 4611686018427387904] (.need
 [List.length ([(34 : UInt8)] ++ y1) + 1 ≤ 4611686018427387904] (.done (Ret.mk (.str ([(34 : UInt8)] ++ y1 ++ [(34 : UInt8)])) [] []))))) : T _) := (T.force_eq _).symm.trans (by kernel_rfl)
end Go.Proofs.YtfncaghjfgnnhaaGreatDoor

namespace Go.Proofs.YtfncaghjfgnnhaaGreatDoor
open Go.RowKit
set_option maxRecDepth 100000
abbrev fCount : Nat := 215
abbrev H116 : Hp := [repB 1, s34, s92, trB]
def escBQ (c : UInt8) : List UInt8 := if c = 34 then [92, c] else if c = 92 then [92, c] else [c]
def escLQ (t : List UInt8) : List UInt8 := t.flatMap escBQ
noncomputable def resCnt (g : UInt8 → Nat) : ResT := fun f vs _ => match vs with
 | [.str _, .str [c]] => bif Nat.beq f fCount then some ⟨g c, fun y => ⟨.int .i64 (y : Nat), [], []⟩⟩ else none
 | _ => none
noncomputable def E116 (g : UInt8 → Nat) (v : V) : Env := { P := Tryz.prog, vw := fun _ _ _ => none, res := resCnt g, vs := [(16, 5, v), (17, 6, v), (27, 5, v), (28, 9, v)] }
def stA (t : List UInt8) (k : Int) (n : Int) (b : Bool) : St := ⟨mkTm 122 [(0, .ptr 0 0), (1, .str t), (5, .int .i64 n), (6, .bool b), (30, .sl 3 0 2 false), (31, .int .i64 2), (32, .int .i64 k)], H116, []⟩
def stX (t : List UInt8) (n : Int) (b : Bool) : St := ⟨mkTm 122 [(0, .ptr 0 0), (1, .str t), (5, .int .i64 n), (6, .bool b)], H116, []⟩
def nfA : Ex → Kp := fun ex => match ex with
 | .normal => { keep := [0, 1, 5, 6, 30, 31, 32] }
 | _ => { keep := [0, 1, 5, 6] }
def stC (t : List UInt8) (i n : Int) (b : Bool) : St := ⟨mkTm 122 [(0, .ptr 0 0), (1, .str t), (5, .int .i64 n), (6, .bool b), (10, .int .i64 i)], H116, []⟩
def nfC : Ex → Kp := fun ex => match ex with
 | .normal => { keep := [0, 1, 5, 6, 10] }
 | _ => { keep := [0, 1, 5, 6] }
def bytBQ (l : List UInt8) : Option Blk := some ([.sld (encs encByte l)], 5)
def stE (t B : List UInt8) (j i : Int) (fl : Bool) : St := ⟨mkTm 122 [(0, .ptr 0 0), (1, .str t), (12, .sl 4 0 B.length fl), (13, .int .i64 j), (14, .int .i64 i)], [repB 1, s34, s92, trB, bytBQ B], []⟩
def stY (B : List UInt8) (fl : Bool) : St := ⟨mkTm 122 [(12, .sl 4 0 B.length fl)], [repB 1, s34, s92, trB, bytBQ B], []⟩
def nfE : Ex → Kp := fun ex => match ex with
 | .normal => { keep := [0, 1, 12, 13, 14] }
 | _ => { keep := [12] }
--FOLD bytBQ
set_option maxRecDepth 100000 in
theorem cntA0 (g : UInt8 → Nat) (t : List UInt8) (n : Int) (b : Bool) : bodyT (E116 g nilS) 4 nfA (lp Tryz.prog fByteRep 0) (stA t 0 n b) =
 T.need [(0 : Int) ≤ (0 : Int) ∧ (0 : Int) < (2 : Int)]
 (T.bind (g (92 : UInt8)) fun y0 =>
 T.need [FnOK (Env.P (E116 g (V.lit (Value.slice none 0 0)))) 215 [V.str t, V.str [92]] [] (Ret.mk (V.int IntKind.i64 (↑y0 : Int)) [] [])]
 (bif (↑y0 : Int) != (0 : Int) then
 T.need [(0 : Int) ≤ (0 : Int) ∧ (0 : Int) < (1 : Int)]
 (T.need [(0 : Int) ≤ (92 : Int) ∧ (92 : Int) < (256 : Int)]
 (T.done
 (Ex.normal,
 St.mk
 (mkTm 122
 [(0, V.ptr 0 0), (1, V.str t), (5, V.int IntKind.i64 (IntKind.wrap IntKind.i64 (n + IntKind.wrap IntKind.i64 ((↑y0 : Int) * (1 : Int))))),
 (6, V.bool true), (30, V.sl 3 0 2 false), (31, V.int IntKind.i64 (2 : Int)), (32, V.int IntKind.i64 (1 : Int))])
 [(repB 1),
 some ([V.sld [V.int IntKind.u8 (92 : Int), V.int IntKind.u8 (34 : Int)]], 5), some ([V.sld [V.int IntKind.u8 (92 : Int), V.int IntKind.u8 (92 : Int)]], 5),
 some ([V.str [92], V.str [34]], 9)]
 [])))
 else
 T.done
 (Ex.normal,
 St.mk
 (mkTm 122
 [(0, V.ptr 0 0), (1, V.str t), (5, V.int IntKind.i64 n), (6, V.bool b), (30, V.sl 3 0 2 false),
 (31, V.int IntKind.i64 (2 : Int)), (32, V.int IntKind.i64 (1 : Int))])
 [(repB 1),
 some ([V.sld [V.int IntKind.u8 (92 : Int), V.int IntKind.u8 (34 : Int)]], 5), some ([V.sld [V.int IntKind.u8 (92 : Int), V.int IntKind.u8 (92 : Int)]], 5),
 some ([V.str [92], V.str [34]], 9)]
 []))) := (T.force_eq _).symm.trans (by kernel_rfl)
set_option maxRecDepth 100000 in
theorem cntA1 (g : UInt8 → Nat) (t : List UInt8) (n : Int) (b : Bool) : bodyT (E116 g nilS) 4 nfA (lp Tryz.prog fByteRep 0) (stA t 1 n b) =
 T.need [(0 : Int) ≤ (1 : Int) ∧ (1 : Int) < (2 : Int)]
 (T.bind (g (34 : UInt8)) fun y0 =>
 T.need [FnOK (Env.P (E116 g (V.lit (Value.slice none 0 0)))) 215 [V.str t, V.str [34]] [] (Ret.mk (V.int IntKind.i64 (↑y0 : Int)) [] [])]
 (bif (↑y0 : Int) != (0 : Int) then
 T.need [(0 : Int) ≤ (0 : Int) ∧ (0 : Int) < (1 : Int)]
 (T.need [(0 : Int) ≤ (34 : Int) ∧ (34 : Int) < (256 : Int)]
 (T.done
 (Ex.normal,
 St.mk
 (mkTm 122
 [(0, V.ptr 0 0), (1, V.str t), (5, V.int IntKind.i64 (IntKind.wrap IntKind.i64 (n + IntKind.wrap IntKind.i64 ((↑y0 : Int) * (1 : Int))))),
 (6, V.bool true), (30, V.sl 3 0 2 false), (31, V.int IntKind.i64 (2 : Int)), (32, V.int IntKind.i64 (2 : Int))])
 [(repB 1),
 some ([V.sld [V.int IntKind.u8 (92 : Int), V.int IntKind.u8 (34 : Int)]], 5), some ([V.sld [V.int IntKind.u8 (92 : Int), V.int IntKind.u8 (92 : Int)]], 5),
 some ([V.str [92], V.str [34]], 9)]
 [])))
 else
 T.done
 (Ex.normal,
 St.mk
 (mkTm 122
 [(0, V.ptr 0 0), (1, V.str t), (5, V.int IntKind.i64 n), (6, V.bool b), (30, V.sl 3 0 2 false),
 (31, V.int IntKind.i64 (2 : Int)), (32, V.int IntKind.i64 (2 : Int))])
 [(repB 1),
 some ([V.sld [V.int IntKind.u8 (92 : Int), V.int IntKind.u8 (34 : Int)]], 5), some ([V.sld [V.int IntKind.u8 (92 : Int), V.int IntKind.u8 (92 : Int)]], 5),
 some ([V.str [92], V.str [34]], 9)]
 []))) := (T.force_eq _).symm.trans (by kernel_rfl)
set_option maxRecDepth 100000 in
theorem cntA2 (g : UInt8 → Nat) (t : List UInt8) (n : Int) (b : Bool) : bodyT (E116 g nilS) 4 nfA (lp Tryz.prog fByteRep 0) (stA t 2 n b) = (
 .done (Ex.exit 0, St.mk (mkTm 122 [(0, .ptr 0 0), (1, .str t), (5, .int .i64 n), (6, .bool b)]) [some ((repL (.sl 1 0 2 false) (.sl 2 0 2 false) (.sl 3 0 2 false)), 157), some ([.sld [.int .u8 92, .int .u8 34]], 5), some ([.sld [.int .u8
 92, .int .u8 92]], 5), some ([.str [92], .str [34]], 9)] []) : T _) := (T.force_eq _).symm.trans (by kernel_rfl)
set_option maxRecDepth 100000 in
theorem cntC34 (t : List UInt8) (i n : Int) (b : Bool) : bodyT (E116 (fun _ => 0) (.sl 1 0 2 false)) 4 nfC (lp Tryz.prog fByteRep 2) (stC t i n b) = (
 bif decide (i < (↑t.length : Int)) then .need [0 ≤ i ∧ i < (↑t.length : Int)] (.need [(0 : Int) ≤ (↑(UInt8.toNat (List.getD t (Int.toNat i) (0 : UInt8))) : Int) ∧ (↑(UInt8.toNat (List.getD t (Int.toNat i) (0 : UInt8))) : Int) < 256] (.need
 [(repL (.sl 1 0 2 false) (.sl 2 0 2 false) (.sl 3 0 2 false))[0 + Int.toNat (↑(UInt8.toNat (List.getD t (Int.toNat i) (0 : UInt8))) : Int) * 1]? = some (.sl 1 0 2 false)] (.need [(0 : Int) ≤ (↑(UInt8.toNat (List.getD t (Int.toNat i) (0 :
 UInt8))) : Int) ∧ (↑(UInt8.toNat (List.getD t (Int.toNat i) (0 : UInt8))) : Int) < 256] (.need [(repL (.sl 1 0 2 false) (.sl 2 0 2 false) (.sl 3 0 2 false))[0 + Int.toNat (↑(UInt8.toNat (List.getD t (Int.toNat i) (0 : UInt8))) : Int) * 1]?
 = some (.sl 1 0 2 false)] (.done (Ex.normal, St.mk (mkTm 122 [(0, .ptr 0 0), (1, .str t), (5, .int .i64 (IntKind.wrap IntKind.i64 (n + 1))), (6, .bool true), (10, .int .i64 (IntKind.wrap IntKind.i64 (i + 1)))]) [some ((repL (.sl 1 0 2
 false) (.sl 2 0 2 false) (.sl 3 0 2 false)), 157), some ([.sld [.int .u8 92, .int .u8 34]], 5), some ([.sld [.int .u8 92, .int .u8 92]], 5), some ([.str [92], .str [34]], 9)] [])))))) else .done (Ex.exit 2, St.mk (mkTm 122 [(0, .ptr 0 0),
 (1, .str t), (5, .int .i64 n), (6, .bool b)]) [some ((repL (.sl 1 0 2 false) (.sl 2 0 2 false) (.sl 3 0 2 false)), 157), some ([.sld [.int .u8 92, .int .u8 34]], 5), some ([.sld [.int .u8 92, .int .u8 92]], 5), some ([.str [92], .str [34]],
 9)] []) : T _) := by kernel_rfl
set_option maxRecDepth 100000 in
theorem cntC92 (t : List UInt8) (i n : Int) (b : Bool) : bodyT (E116 (fun _ => 0) (.sl 2 0 2 false)) 4 nfC (lp Tryz.prog fByteRep 2) (stC t i n b) = (
 bif decide (i < (↑t.length : Int)) then .need [0 ≤ i ∧ i < (↑t.length : Int)] (.need [(0 : Int) ≤ (↑(UInt8.toNat (List.getD t (Int.toNat i) (0 : UInt8))) : Int) ∧ (↑(UInt8.toNat (List.getD t (Int.toNat i) (0 : UInt8))) : Int) < 256] (.need
 [(repL (.sl 1 0 2 false) (.sl 2 0 2 false) (.sl 3 0 2 false))[0 + Int.toNat (↑(UInt8.toNat (List.getD t (Int.toNat i) (0 : UInt8))) : Int) * 1]? = some (.sl 2 0 2 false)] (.need [(0 : Int) ≤ (↑(UInt8.toNat (List.getD t (Int.toNat i) (0 :
 UInt8))) : Int) ∧ (↑(UInt8.toNat (List.getD t (Int.toNat i) (0 : UInt8))) : Int) < 256] (.need [(repL (.sl 1 0 2 false) (.sl 2 0 2 false) (.sl 3 0 2 false))[0 + Int.toNat (↑(UInt8.toNat (List.getD t (Int.toNat i) (0 : UInt8))) : Int) * 1]?
 = some (.sl 2 0 2 false)] (.done (Ex.normal, St.mk (mkTm 122 [(0, .ptr 0 0), (1, .str t), (5, .int .i64 (IntKind.wrap IntKind.i64 (n + 1))), (6, .bool true), (10, .int .i64 (IntKind.wrap IntKind.i64 (i + 1)))]) [some ((repL (.sl 1 0 2
 false) (.sl 2 0 2 false) (.sl 3 0 2 false)), 157), some ([.sld [.int .u8 92, .int .u8 34]], 5), some ([.sld [.int .u8 92, .int .u8 92]], 5), some ([.str [92], .str [34]], 9)] [])))))) else .done (Ex.exit 2, St.mk (mkTm 122 [(0, .ptr 0 0),
 (1, .str t), (5, .int .i64 n), (6, .bool b)]) [some ((repL (.sl 1 0 2 false) (.sl 2 0 2 false) (.sl 3 0 2 false)), 157), some ([.sld [.int .u8 92, .int .u8 34]], 5), some ([.sld [.int .u8 92, .int .u8 92]], 5), some ([.str [92], .str [34]],
 9)] []) : T _) := by kernel_rfl
set_option maxRecDepth 100000 in
theorem cntCo (t : List UInt8) (i n : Int) (b : Bool) : bodyT (E116 (fun _ => 0) nilS) 4 nfC (lp Tryz.prog fByteRep 2) (stC t i n b) = (
 bif decide (i < (↑t.length : Int)) then .need [0 ≤ i ∧ i < (↑t.length : Int)] (.need [(0 : Int) ≤ (↑(UInt8.toNat (List.getD t (Int.toNat i) (0 : UInt8))) : Int) ∧ (↑(UInt8.toNat (List.getD t (Int.toNat i) (0 : UInt8))) : Int) < 256] (.need
 [(repL (.sl 1 0 2 false) (.sl 2 0 2 false) (.sl 3 0 2 false))[0 + Int.toNat (↑(UInt8.toNat (List.getD t (Int.toNat i) (0 : UInt8))) : Int) * 1]? = some (.lit (Value.slice none 0 0))] (.done (Ex.normal, St.mk (mkTm 122 [(0, .ptr 0 0), (1,
 .str t), (5, .int .i64 n), (6, .bool b), (10, .int .i64 (IntKind.wrap IntKind.i64 (i + 1)))]) [some ((repL (.sl 1 0 2 false) (.sl 2 0 2 false) (.sl 3 0 2 false)), 157), some ([.sld [.int .u8 92, .int .u8 34]], 5), some ([.sld [.int .u8 92,
 .int .u8 92]], 5), some ([.str [92], .str [34]], 9)] [])))) else .done (Ex.exit 2, St.mk (mkTm 122 [(0, .ptr 0 0), (1, .str t), (5, .int .i64 n), (6, .bool b)]) [some ((repL (.sl 1 0 2 false) (.sl 2 0 2 false) (.sl 3 0 2 false)), 157), some
 ([.sld [.int .u8 92, .int .u8 34]], 5), some ([.sld [.int .u8 92, .int .u8 92]], 5), some ([.str [92], .str [34]], 9)] []) : T _) := by kernel_rfl
set_option maxRecDepth 100000 in
theorem cpE34 (t B : List UInt8) (j i : Int) (fl : Bool) : bodyT (E116 (fun _ => 0) (.sl 1 0 2 false)) 4 nfE (lp Tryz.prog fByteRep 4) (stE t B j i fl) = (
 bif decide (i < (↑t.length : Int)) then .need [0 ≤ i ∧ i < (↑t.length : Int)] (.need [(0 : Int) ≤ (↑(UInt8.toNat (List.getD t (Int.toNat i) (0 : UInt8))) : Int) ∧ (↑(UInt8.toNat (List.getD t (Int.toNat i) (0 : UInt8))) : Int) < 256] (.need
 [(repL (.sl 1 0 2 false) (.sl 2 0 2 false) (.sl 3 0 2 false))[0 + Int.toNat (↑(UInt8.toNat (List.getD t (Int.toNat i) (0 : UInt8))) : Int) * 1]? = some (.sl 1 0 2 false)] (bif decide (Int.toNat j < B.length) then .need [0 ≤ j ∧ j ≤
 (↑B.length : Int)] (.need [(0 : Int) ≤ (↑(UInt8.toNat (List.getD t (Int.toNat i) (0 : UInt8))) : Int) ∧ (↑(UInt8.toNat (List.getD t (Int.toNat i) (0 : UInt8))) : Int) < 256] (.need [(repL (.sl 1 0 2 false) (.sl 2 0 2 false) (.sl 3 0 2
 false))[0 + Int.toNat (↑(UInt8.toNat (List.getD t (Int.toNat i) (0 : UInt8))) : Int) * 1]? = some (.sl 1 0 2 false)] (.need [2 ≤ B.length - Int.toNat j, 0 + Int.toNat j * 1 + 2 ≤ List.length (encs encByte B)] (.done (Ex.normal, St.mk (mkTm
 122 [(0, .ptr 0 0), (1, .str t), (12, .sl 4 0 B.length fl), (13, .int .i64 (IntKind.wrap IntKind.i64 (j + 2))), (14, .int .i64 (IntKind.wrap IntKind.i64 (i + 1)))]) [some ((repL (.sl 1 0 2 false) (.sl 2 0 2 false) (.sl 3 0 2 false)), 157),
 some ([.sld [.int .u8 92, .int .u8 34]], 5), some ([.sld [.int .u8 92, .int .u8 92]], 5), some ([.str [92], .str [34]], 9), some ([.sld (List.take (0 + Int.toNat j * 1) (encs encByte B) ++ .int .u8 92 :: .int .u8 34 :: List.drop (0 +
 Int.toNat j * 1 + 2) (encs encByte B))], 5)] []))))) else .need [0 ≤ j ∧ j ≤ (↑B.length : Int)] (.need [(0 : Int) ≤ (↑(UInt8.toNat (List.getD t (Int.toNat i) (0 : UInt8))) : Int) ∧ (↑(UInt8.toNat (List.getD t (Int.toNat i) (0 : UInt8))) :
 Int) < 256] (.need [(repL (.sl 1 0 2 false) (.sl 2 0 2 false) (.sl 3 0 2 false))[0 + Int.toNat (↑(UInt8.toNat (List.getD t (Int.toNat i) (0 : UInt8))) : Int) * 1]? = some (.sl 1 0 2 false)] .fail))))) else .done (Ex.exit 4, St.mk (mkTm 122
 [(12, .sl 4 0 B.length fl)]) [some ((repL (.sl 1 0 2 false) (.sl 2 0 2 false) (.sl 3 0 2 false)), 157), some ([.sld [.int .u8 92, .int .u8 34]], 5), some ([.sld [.int .u8 92, .int .u8 92]], 5), some ([.str [92], .str [34]], 9), bytBQ B] []) : T _) := by kernel_rfl
set_option maxRecDepth 100000 in
theorem cpE92 (t B : List UInt8) (j i : Int) (fl : Bool) : bodyT (E116 (fun _ => 0) (.sl 2 0 2 false)) 4 nfE (lp Tryz.prog fByteRep 4) (stE t B j i fl) = (
 bif decide (i < (↑t.length : Int)) then .need [0 ≤ i ∧ i < (↑t.length : Int)] (.need [(0 : Int) ≤ (↑(UInt8.toNat (List.getD t (Int.toNat i) (0 : UInt8))) : Int) ∧ (↑(UInt8.toNat (List.getD t (Int.toNat i) (0 : UInt8))) : Int) < 256] (.need
 [(repL (.sl 1 0 2 false) (.sl 2 0 2 false) (.sl 3 0 2 false))[0 + Int.toNat (↑(UInt8.toNat (List.getD t (Int.toNat i) (0 : UInt8))) : Int) * 1]? = some (.sl 2 0 2 false)] (bif decide (Int.toNat j < B.length) then .need [0 ≤ j ∧ j ≤
 (↑B.length : Int)] (.need [(0 : Int) ≤ (↑(UInt8.toNat (List.getD t (Int.toNat i) (0 : UInt8))) : Int) ∧ (↑(UInt8.toNat (List.getD t (Int.toNat i) (0 : UInt8))) : Int) < 256] (.need [(repL (.sl 1 0 2 false) (.sl 2 0 2 false) (.sl 3 0 2
 false))[0 + Int.toNat (↑(UInt8.toNat (List.getD t (Int.toNat i) (0 : UInt8))) : Int) * 1]? = some (.sl 2 0 2 false)] (.need [2 ≤ B.length - Int.toNat j, 0 + Int.toNat j * 1 + 2 ≤ List.length (encs encByte B)] (.done (Ex.normal, St.mk (mkTm
 122 [(0, .ptr 0 0), (1, .str t), (12, .sl 4 0 B.length fl), (13, .int .i64 (IntKind.wrap IntKind.i64 (j + 2))), (14, .int .i64 (IntKind.wrap IntKind.i64 (i + 1)))]) [some ((repL (.sl 1 0 2 false) (.sl 2 0 2 false) (.sl 3 0 2 false)), 157),
 some ([.sld [.int .u8 92, .int .u8 34]], 5), some ([.sld [.int .u8 92, .int .u8 92]], 5), some ([.str [92], .str [34]], 9), some ([.sld (List.take (0 + Int.toNat j * 1) (encs encByte B) ++ .int .u8 92 :: .int .u8 92 :: List.drop (0 +
 Int.toNat j * 1 + 2) (encs encByte B))], 5)] []))))) else .need [0 ≤ j ∧ j ≤ (↑B.length : Int)] (.need [(0 : Int) ≤ (↑(UInt8.toNat (List.getD t (Int.toNat i) (0 : UInt8))) : Int) ∧ (↑(UInt8.toNat (List.getD t (Int.toNat i) (0 : UInt8))) :
 Int) < 256] (.need [(repL (.sl 1 0 2 false) (.sl 2 0 2 false) (.sl 3 0 2 false))[0 + Int.toNat (↑(UInt8.toNat (List.getD t (Int.toNat i) (0 : UInt8))) : Int) * 1]? = some (.sl 2 0 2 false)] .fail))))) else .done (Ex.exit 4, St.mk (mkTm 122
 [(12, .sl 4 0 B.length fl)]) [some ((repL (.sl 1 0 2 false) (.sl 2 0 2 false) (.sl 3 0 2 false)), 157), some ([.sld [.int .u8 92, .int .u8 34]], 5), some ([.sld [.int .u8 92, .int .u8 92]], 5), some ([.str [92], .str [34]], 9), bytBQ B] []) : T _) := by kernel_rfl
set_option maxRecDepth 100000 in
theorem cpEo (t B : List UInt8) (j i : Int) (fl : Bool) : bodyT (E116 (fun _ => 0) nilS) 4 nfE (lp Tryz.prog fByteRep 4) (stE t B j i fl) = (
 bif decide (i < (↑t.length : Int)) then .need [0 ≤ i ∧ i < (↑t.length : Int)] (.need [(0 : Int) ≤ (↑(UInt8.toNat (List.getD t (Int.toNat i) (0 : UInt8))) : Int) ∧ (↑(UInt8.toNat (List.getD t (Int.toNat i) (0 : UInt8))) : Int) < 256] (.need
 [(repL (.sl 1 0 2 false) (.sl 2 0 2 false) (.sl 3 0 2 false))[0 + Int.toNat (↑(UInt8.toNat (List.getD t (Int.toNat i) (0 : UInt8))) : Int) * 1]? = some (.lit (Value.slice none 0 0))] (.need [0 ≤ j ∧ j < (↑B.length : Int)] (.need [0 +
 Int.toNat j * 1 + 1 ≤ List.length (encs encByte B)] (.done (Ex.normal, St.mk (mkTm 122 [(0, .ptr 0 0), (1, .str t), (12, .sl 4 0 B.length fl), (13, .int .i64 (IntKind.wrap IntKind.i64 (j + 1))), (14, .int .i64 (IntKind.wrap IntKind.i64 (i +
 1)))]) [some ((repL (.sl 1 0 2 false) (.sl 2 0 2 false) (.sl 3 0 2 false)), 157), some ([.sld [.int .u8 92, .int .u8 34]], 5), some ([.sld [.int .u8 92, .int .u8 92]], 5), some ([.str [92], .str [34]], 9), some ([.sld (List.take (0 +
 Int.toNat j * 1) (encs encByte B) ++ .int .u8 (↑(UInt8.toNat (List.getD t (Int.toNat i) (0 : UInt8))) : Int) :: List.drop (0 + Int.toNat j * 1 + 1) (encs encByte B))], 5)] [])))))) else .done (Ex.exit 4, St.mk (mkTm 122 [(12, .sl 4 0
 B.length fl)]) [some ((repL (.sl 1 0 2 false) (.sl 2 0 2 false) (.sl 3 0 2 false)), 157), some ([.sld [.int .u8 92, .int .u8 34]], 5), some ([.sld [.int .u8 92, .int .u8 92]], 5), some ([.str [92], .str [34]], 9), bytBQ B] []) : T _) := by kernel_rfl
end Go.Proofs.YtfncaghjfgnnhaaGreatDoor

/-
  How many values and how deep: the program's counts and the reference's.
  The reference's l01OK at right values.
  The law's helpers: a number, two lists of texts.
  A text that is cut is no value's.
  What the law FnJson calls, at right values.
-/
import Derived.Test.YtfncaghjfgnnhaaGreatDoorJxAj
namespace Go.Proofs.YtfncaghjfgnnhaaGreatDoor
open Go.RowKit
set_option maxRecDepth 100000

abbrev fNodes : Nat := 39
abbrev fDepth : Nat := 41
abbrev fSDepth : Nat := 42
abbrev fBit : Nat := 63
noncomputable def resND : ResT := fun f vs hp => match vs, hp with
  | [.agg [.int _ k, .int _ n, .str t, .dsl _ _ ks, .dsl _ _ its]], [] => bif Nat.beq f fNodes then some ⟨jn (jOf k n t ks its), fun y => ⟨.int .i64 (y : Nat), [], []⟩⟩ else bif Nat.beq f fDepth then some ⟨jdep (jOf k n t ks its), fun y => ⟨.int .i64 (y : Nat), [], []⟩⟩ else bif Nat.beq f fSDepth then some ⟨jdep (jOf k n t ks its), fun y => ⟨.int .i64 (y : Nat), [], []⟩⟩ else none
  | [.bool b], [] => bif Nat.beq f fBit then some ⟨b.toNat, fun (y : Nat) => ⟨.int .i64 (y : Nat), [], []⟩⟩ else none
  | _, _ => none
noncomputable def END : Env := { P := Tryz.prog, vw := vwA, res := resND }
def stNd (L : List J) (n i : Int) : St := ⟨mkTm 19 [(3, .int .i64 n), (7, sls encJ L), (8, .int .i64 L.length), (9, .int .i64 i)], [], []⟩
def stDp (L : List J) (n i : Int) : St := ⟨mkTm 28 [(3, .int .i64 n), (15, sls encJ L), (16, .int .i64 L.length), (17, .int .i64 i)], [], []⟩
def stSd (j : J) (n i : Int) : St := ⟨mkTm 26 [(1, .ptr 0 0), (3, .int .i64 n), (4, .int .i64 i)], [some (vwJ j, tJ)], []⟩
def nfNd : Ex → Kp := fun ex => match ex with
  | .normal => { keep := [3, 7, 8, 9] }
  | _ => { keep := [3] }
def nfDp : Ex → Kp := fun ex => match ex with
  | .normal => { keep := [3, 15, 16, 17] }
  | _ => { keep := [3] }
def nfSd : Ex → Kp := fun ex => match ex with
  | .normal => { keep := [1, 3, 4] }
  | _ => { keep := [1, 3] }
--FOLD vwJ
set_option maxRecDepth 100000 in
theorem bitT (b : Bool) : fnT END 0 fBit [.bool b] [] =
 bif b then T.done (Ret.mk (V.int IntKind.i64 (1 : Int)) [] []) else T.done (Ret.mk (V.int IntKind.i64 (0 : Int)) [] []) := by kernel_rfl
set_option maxRecDepth 100000 in
theorem nodesL (L : List J) (n i : Int) : bodyT END 0 nfNd (lp Tryz.prog fNodes 0) (stNd L n i) =
 bif decide (i < (↑(List.length L) : Int)) then
 T.need
 [(0 : Int) ≤ i ∧ i < (↑(List.length L) : Int), List.take 5 (List.drop (Int.toNat i * 5) (encs encJ L)) = vwJ (List.getD (decL encJ (encs encJ L)) (Int.toNat i) (J.mk (0 : Int) (0 : Int) [] [] []))]
 (T.bind
 (jn
 (jOf (J.kind (List.getD (decL encJ (encs encJ L)) (Int.toNat i) (J.mk (0 : Int) (0 : Int) [] [] []))) (J.n (List.getD (decL encJ (encs encJ L)) (Int.toNat i) (J.mk (0 : Int) (0 : Int) [] [] [])))
 (J.t (List.getD (decL encJ (encs encJ L)) (Int.toNat i) (J.mk (0 : Int) (0 : Int) [] [] []))) (encs encStr (J.keys (List.getD (decL encJ (encs encJ L)) (Int.toNat i) (J.mk (0 : Int) (0 : Int) [] [] []))))
 (encs encJ (J.items (List.getD (decL encJ (encs encJ L)) (Int.toNat i) (J.mk (0 : Int) (0 : Int) [] [] []))))))
 fun y0 =>
 T.need [FnOK (Env.P END) 39 [V.agg (vwJ (List.getD (decL encJ (encs encJ L)) (Int.toNat i) (J.mk (0 : Int) (0 : Int) [] [] [])))] [] (Ret.mk (V.int IntKind.i64 (↑y0 : Int)) [] [])]
 (T.done
 (Ex.normal,
 St.mk
 (mkTm 19
 [(3, V.int IntKind.i64 (IntKind.wrap IntKind.i64 (n + (↑y0 : Int)))), (7, V.dsl (List.length L) false (encs encJ L)), (8, V.int IntKind.i64 (↑(List.length L) : Int)),
 (9, V.int IntKind.i64 (IntKind.wrap IntKind.i64 (i + (1 : Int))))])
 [] [])))
 else T.done (Ex.exit 0, St.mk (mkTm 19 [(3, V.int IntKind.i64 n)]) [] []) := by kernel_rfl
set_option maxRecDepth 100000 in
theorem depthL (L : List J) (n i : Int) : bodyT END 0 nfDp (lp Tryz.prog fDepth 0) (stDp L n i) =
 bif decide (i < (↑(List.length L) : Int)) then
 T.need
 [(0 : Int) ≤ i ∧ i < (↑(List.length L) : Int), List.take 5 (List.drop (Int.toNat i * 5) (encs encJ L)) = vwJ (List.getD (decL encJ (encs encJ L)) (Int.toNat i) (J.mk (0 : Int) (0 : Int) [] [] []))]
 (T.bind
 (jdep
 (jOf (J.kind (List.getD (decL encJ (encs encJ L)) (Int.toNat i) (J.mk (0 : Int) (0 : Int) [] [] []))) (J.n (List.getD (decL encJ (encs encJ L)) (Int.toNat i) (J.mk (0 : Int) (0 : Int) [] [] [])))
 (J.t (List.getD (decL encJ (encs encJ L)) (Int.toNat i) (J.mk (0 : Int) (0 : Int) [] [] []))) (encs encStr (J.keys (List.getD (decL encJ (encs encJ L)) (Int.toNat i) (J.mk (0 : Int) (0 : Int) [] [] []))))
 (encs encJ (J.items (List.getD (decL encJ (encs encJ L)) (Int.toNat i) (J.mk (0 : Int) (0 : Int) [] [] []))))))
 fun y0 =>
 T.need [FnOK (Env.P END) 41 [V.agg (vwJ (List.getD (decL encJ (encs encJ L)) (Int.toNat i) (J.mk (0 : Int) (0 : Int) [] [] [])))] [] (Ret.mk (V.int IntKind.i64 (↑y0 : Int)) [] [])]
 (T.done
 (Ex.normal,
 St.mk
 (mkTm 28
 [(3, V.int IntKind.i64 (if (↑y0 : Int) > n then (↑y0 : Int) else n)), (15, V.dsl (List.length L) false (encs encJ L)), (16, V.int IntKind.i64 (↑(List.length L) : Int)),
 (17, V.int IntKind.i64 (IntKind.wrap IntKind.i64 (i + (1 : Int))))])
 [] [])))
 else T.done (Ex.exit 0, St.mk (mkTm 28 [(3, V.int IntKind.i64 n)]) [] []) := by kernel_rfl
set_option maxRecDepth 100000 in
theorem sdepthL (j : J) (n i : Int) : bodyT END 0 nfSd (lp Tryz.prog fSDepth 0) (stSd j n i) =
 bif decide (i < (↑(List.length (J.items j)) : Int)) then
 T.need
 [(0 : Int) ≤ i ∧ i < (↑(List.length (J.items j)) : Int),
 List.take 5 (List.drop (Int.toNat i * 5) (encs encJ (J.items j))) = vwJ (List.getD (decL encJ (encs encJ (J.items j))) (Int.toNat i) (J.mk (0 : Int) (0 : Int) [] [] []))]
 (T.bind
 (jdep
 (jOf (J.kind (List.getD (decL encJ (encs encJ (J.items j))) (Int.toNat i) (J.mk (0 : Int) (0 : Int) [] [] [])))
 (J.n (List.getD (decL encJ (encs encJ (J.items j))) (Int.toNat i) (J.mk (0 : Int) (0 : Int) [] [] []))) (J.t (List.getD (decL encJ (encs encJ (J.items j))) (Int.toNat i) (J.mk (0 : Int) (0 : Int) [] [] [])))
 (encs encStr (J.keys (List.getD (decL encJ (encs encJ (J.items j))) (Int.toNat i) (J.mk (0 : Int) (0 : Int) [] [] []))))
 (encs encJ (J.items (List.getD (decL encJ (encs encJ (J.items j))) (Int.toNat i) (J.mk (0 : Int) (0 : Int) [] [] []))))))
 fun y0 =>
 T.need [FnOK (Env.P END) 42 [V.agg (vwJ (List.getD (decL encJ (encs encJ (J.items j))) (Int.toNat i) (J.mk (0 : Int) (0 : Int) [] [] [])))] [] (Ret.mk (V.int IntKind.i64 (↑y0 : Int)) [] [])]
 (T.done
 (Ex.normal,
 St.mk
 (mkTm 26
 [(1, V.ptr 0 0), (3, V.int IntKind.i64 (if (↑y0 : Int) > n then (↑y0 : Int) else n)), (4, V.int IntKind.i64 (IntKind.wrap IntKind.i64 (i + (1 : Int))))])
 [some (vwJ j, 25)] [])))
 else T.done (Ex.exit 0, St.mk (mkTm 26 [(1, V.ptr 0 0), (3, V.int IntKind.i64 n)]) [some (vwJ j, 25)] []) := by kernel_rfl
theorem bit_ok (b : Bool) : FnOK Tryz.prog fBit [.bool b] [] ⟨.int .i64 (b.toNat : Nat), [], []⟩ := by
  refine fnOK_TL (E := END) follows named (bitT b) (by simp) ?_
  simp only [WP_cond, T.WP]
  cases b
  · exact ⟨fun h => by simp at h, fun _ => ⟨rfl, rfl, by simp⟩⟩
  · exact ⟨fun _ => ⟨rfl, rfl, by simp⟩, fun h => by simp at h⟩
theorem j_drop {L : List J} {i : Nat} (h : i < L.length) : L.drop i = L.getD i J.zero :: L.drop (i + 1) := by
  rw [List.getD_eq_getElem?_getD, List.getElem?_eq_getElem h]; exact List.drop_eq_getElem_cons h
theorem j_mem {L : List J} {i : Nat} (h : i < L.length) : L.getD i J.zero ∈ L := by
  rw [List.getD_eq_getElem?_getD, List.getElem?_eq_getElem h]; exact List.getElem_mem _
mutual
theorem jdep_jn : ∀ j : J, jdep j ≤ jn j
  | .mk k n t ks its => by
    have := jdeps_jns its
    rw [jdep, jn]
    split <;> omega
theorem jdeps_jns : ∀ L : List J, jdeps L ≤ jns L
  | [] => by simp [jdeps]
  | j :: js => by
    have h1 := jdep_jn j
    have h2 := jdeps_jns js
    rw [jdeps, jns]; omega
end
theorem nodes_loop (L : List J) (hL : ∀ x ∈ L, FnOK Tryz.prog fNodes [.agg (vwJ x)] [] ⟨.int .i64 (jn x : Nat), [], []⟩) (hl : L.length ≤ 100000) : ∀ (m n i : Nat), i + m = L.length → n + jns (L.drop i) ≤ 100000 →
    LoopTo Tryz.prog 0 (lp Tryz.prog fNodes 0) (stNd L n i) (.exit 0) ⟨mkTm 19 [(3, .int .i64 ((n + jns (L.drop i) : Nat) : Int))], [], []⟩
  | 0, n, i, h, hb => by
    obtain rfl : i = L.length := h
    refine loopT (E := END) follows named (nodesL L n _) ?_
    simp only [WP_cond, T.WP, All, decide_eq_true_eq, decide_eq_false_iff_not, and_true]
    refine ⟨fun h => by omega, fun _ => ⟨rfl, ?_⟩⟩
    rw [List.drop_length, jns]; rfl
  | m + 1, n, i, h, hb => by
    refine loopT (E := END) follows named (nodesL L n i) ?_
    have hat := vwJ_at L i (by omega)
    simp only [WP_cond, T.WP, All, decide_eq_true_eq, decide_eq_false_iff_not, and_true, Int.toNat_natCast, layJ.decL, wrap_succ (show i < 9223372036854775807 by omega), show J.mk 0 0 [] [] [] = J.zero from rfl]
    refine ⟨fun _ => ⟨⟨by omega, hat⟩, ?_⟩, fun h => by omega⟩
    rintro y rfl
    rw [jOf_eta]
    have hx := hL _ (j_mem (L := L) (i := i) (by omega))
    rw [j_drop (by omega), jns] at hb ⊢
    have ih := nodes_loop L hL hl m (n + jn (L.getD i J.zero)) (i + 1) (by omega) (by omega)
    rw [wrap_id (by omega), show ((n : Int) + (jn (L.getD i J.zero) : Nat)) = ((n + jn (L.getD i J.zero) : Nat) : Int) by omega]
    refine ⟨hx, ?_⟩
    rw [← Nat.add_assoc]
    exact ih
noncomputable def lsNd (j : J) : Nat → St → Option LRes := fun id _ => match id with
  | 0 => some ⟨(), fun _ => .one { keep := [3, 7, 8, 9] } (stNd j.items 1 0) (.exit 0) ⟨mkTm 19 [(3, .int .i64 ((1 + jns j.items : Nat) : Int))], [], []⟩⟩
  | _ => none
set_option maxRecDepth 100000 in
theorem nodesT (j : J) : fnT { P := Tryz.prog, vw := vwA, res := resND, ls := lsNd j } 0 fNodes [.agg (vwJ j)] [] =
 T.bind PUnit.unit fun _ =>
 T.need
 [St.mk
 (mkTm 19
 [(3, V.int IntKind.i64 (1 : Int)), (7, V.dsl (List.length (J.items j)) false (encs encJ (J.items j))), (8, V.int IntKind.i64 (↑(List.length (J.items j)) : Int)),
 (9, V.int IntKind.i64 (0 : Int))])
 [] [] =
 St.mk
 (mkTm 19
 [(3, V.int IntKind.i64 (1 : Int)), (7, V.dsl (List.length (J.items j)) false (encs encJ (J.items j))), (8, V.int IntKind.i64 (↑(List.length (J.items j)) : Int)),
 (9, V.int IntKind.i64 (0 : Int))])
 [] [],
 SoundC (Env.P (Env.mk Tryz.prog vwA resND (lsNd j) [] [] none (MapE.mk (fun _ _ _ => none) fun _ _ _ _ => none) fun _ _ _ _ _ => none)) 0
 (Code.loop
 (Code.seq (Code.region 3 #[Oper.mk (some 10) (Op.binOp BinOp.lss 3 (Operand.tmp 9) (Operand.tmp 8) 3) 0 "l01_json.go:300" #[] none] false)
 (Code.seq (Code.cond (Operand.tmp 10) Code.skip (Code.exit 0))
 (Code.seq
 (Code.block 1
 (Code.seq
 (Code.region 4
 #[Oper.mk (some 11) (Op.indexAddr 23 (Operand.tmp 7) (Operand.tmp 9)) 0 "l01_json.go:300" #[] none,
 Oper.mk (some 12) (Op.load 25 (Operand.tmp 11)) 25 "l01_json.go:300" #[Edge.mk 0 Ground.data] none,
 Oper.mk (some 5) (Op.alloc 25) 0 "l01_json.go:300" #[] none,
 Oper.mk none (Op.store 25 (Operand.tmp 5) (Operand.tmp 12)) 0 "l01_json.go:300"
 #[Edge.mk 2 Ground.data, Edge.mk 1 Ground.data, Edge.mk 0 Ground.phase, Edge.mk 1 Ground.phase, Edge.mk 2 Ground.phase] none]
 false)
 (Code.region 5
 #[Oper.mk (some 13) (Op.move (Operand.tmp 3)) 3 "l01_json.go:301" #[] none,
 Oper.mk (some 14) (Op.load 25 (Operand.tmp 5)) 25 "l01_json.go:301" #[] none,
 Oper.mk (some 15) (Op.call (Call.mk (Callee.value (Operand.func 39)) #[Operand.tmp 14] #[25])) 3 "l01_json.go:301" #[Edge.mk 1 Ground.data] none,
 Oper.mk (some 16) (Op.binOp BinOp.add 3 (Operand.tmp 13) (Operand.tmp 15) 3) 3 "l01_json.go:301"
 #[Edge.mk 0 Ground.data, Edge.mk 2 Ground.data] none,
 Oper.mk (some 3) (Op.assign (Operand.tmp 16)) 3 "l01_json.go:301"
 #[Edge.mk 3 Ground.data, Edge.mk 2 Ground.chain, Edge.mk 0 Ground.phase, Edge.mk 1 Ground.phase, Edge.mk 2 Ground.phase, Edge.mk 3 Ground.phase]
 none]
 false)))
 (Code.region 6
 #[Oper.mk (some 17) (Op.binOp BinOp.add 3 (Operand.tmp 9) (Operand.const (Value.int IntKind.i64 (1 : Int))) 3) 3 "l01_json.go:300" #[] none,
 Oper.mk (some 9) (Op.move (Operand.tmp 17)) 3 "l01_json.go:300" #[Edge.mk 0 Ground.data] none]
 false)))))
 (St.mk
 (mkTm 19
 [(3, V.int IntKind.i64 (1 : Int)), (7, V.dsl (List.length (J.items j)) false (encs encJ (J.items j))), (8, V.int IntKind.i64 (↑(List.length (J.items j)) : Int)),
 (9, V.int IntKind.i64 (0 : Int))])
 [] [])
 (Ex.exit 0) (St.mk (mkTm 19 [(3, V.int IntKind.i64 (↑(1 + jns (J.items j)) : Int))]) [] [])]
 (T.done (Ret.mk (V.int IntKind.i64 (↑(1 + jns (J.items j)) : Int)) [] [])) := (T.force_eq _).symm.trans (by kernel_rfl)
theorem jn_eq (j : J) : jn j = 1 + jns j.items := by obtain ⟨k, n, t, ks, its⟩ := j; rw [jn]; rfl
theorem nodes_ok : ∀ (m : Nat) (j : J), jn j ≤ m → m ≤ 1000 → FnOK Tryz.prog fNodes [.agg (vwJ j)] [] ⟨.int .i64 (jn j : Nat), [], []⟩
  | 0, j, hm, _ => by rw [jn_eq] at hm; omega
  | m + 1, j, hm, hm2 => by
    have hn := jn_eq j
    have hl := jns_length j.items
    refine fnOK_TL (E := { P := Tryz.prog, vw := vwA, res := resND, ls := lsNd j }) follows named (nodesT j) (by simp) ?_
    simp only [T.WP, All, and_true]
    have h := nodes_loop j.items (fun x hx => nodes_ok m x (by have := jns_mem x hx; omega) (by omega)) (by omega) j.items.length 1 0 (by omega) (by simp; omega)
    rw [List.drop_zero] at h
    rintro y -
    rw [hn]
    exact ⟨⟨trivial, .loopTo h⟩, ⟨rfl, rfl, by simp⟩⟩
theorem jdeps_step {L : List J} {i n : Nat} (h : i < L.length) : max n (jdeps (L.drop i)) = max (max n (jdep (L.getD i J.zero))) (jdeps (L.drop (i + 1))) := by
  rw [j_drop h, jdeps]; omega
theorem max_if (n d : Nat) : (if ((d : Nat) : Int) > (n : Nat) then ((d : Nat) : Int) else (n : Nat)) = ((max n d : Nat) : Int) := by
  split <;> omega
theorem depth_loop (L : List J) (hL : ∀ x ∈ L, FnOK Tryz.prog fDepth [.agg (vwJ x)] [] ⟨.int .i64 (jdep x : Nat), [], []⟩) (hl : L.length ≤ 100000) : ∀ (m n i : Nat), i + m = L.length →
    LoopTo Tryz.prog 0 (lp Tryz.prog fDepth 0) (stDp L n i) (.exit 0) ⟨mkTm 28 [(3, .int .i64 ((max n (jdeps (L.drop i)) : Nat) : Int))], [], []⟩
  | 0, n, i, h => by
    obtain rfl : i = L.length := h
    refine loopT (E := END) follows named (depthL L n _) ?_
    simp only [WP_cond, T.WP, All, decide_eq_true_eq, decide_eq_false_iff_not, and_true]
    refine ⟨fun h => by omega, fun _ => ⟨rfl, ?_⟩⟩
    rw [List.drop_length, jdeps, Nat.max_zero]
  | m + 1, n, i, h => by
    refine loopT (E := END) follows named (depthL L n i) ?_
    have hat := vwJ_at L i (by omega)
    simp only [WP_cond, T.WP, All, decide_eq_true_eq, decide_eq_false_iff_not, and_true, Int.toNat_natCast, layJ.decL, wrap_succ (show i < 9223372036854775807 by omega), show J.mk 0 0 [] [] [] = J.zero from rfl]
    refine ⟨fun _ => ⟨⟨by omega, hat⟩, ?_⟩, fun h => by omega⟩
    rintro y rfl
    rw [jOf_eta, max_if]
    have hx := hL _ (j_mem (L := L) (i := i) (by omega))
    have ih := depth_loop L hL hl m (max n (jdep (L.getD i J.zero))) (i + 1) (by omega)
    rw [← jdeps_step (by omega)] at ih
    exact ⟨hx, ih⟩
noncomputable def lsDp (j : J) : Nat → St → Option LRes := fun id _ => match id with
  | 0 => some ⟨(), fun _ => .one { keep := [3, 15, 16, 17] } (stDp j.items 0 0) (.exit 0) ⟨mkTm 28 [(3, .int .i64 ((max 0 (jdeps j.items) : Nat) : Int))], [], []⟩⟩
  | _ => none
set_option maxRecDepth 100000 in
theorem depthT (j : J) : fnT { P := Tryz.prog, vw := vwA, res := resND, ls := lsDp j } 0 fDepth [.agg (vwJ j)] [] =
 bif J.kind j != (4 : Int) then
 bif J.kind j != (5 : Int) then T.done (Ret.mk (V.int IntKind.i64 (0 : Int)) [] [])
 else
 T.bind PUnit.unit fun _ =>
 T.need
 [St.mk
 (mkTm 28
 [(3, V.int IntKind.i64 (0 : Int)), (15, V.dsl (List.length (J.items j)) false (encs encJ (J.items j))), (16, V.int IntKind.i64 (↑(List.length (J.items j)) : Int)),
 (17, V.int IntKind.i64 (0 : Int))])
 [] [] =
 St.mk
 (mkTm 28
 [(3, V.int IntKind.i64 (0 : Int)), (15, V.dsl (List.length (J.items j)) false (encs encJ (J.items j))), (16, V.int IntKind.i64 (↑(List.length (J.items j)) : Int)),
 (17, V.int IntKind.i64 (0 : Int))])
 [] [],
 SoundC (Env.P (Env.mk Tryz.prog vwA resND (lsDp j) [] [] none (MapE.mk (fun _ _ _ => none) fun _ _ _ _ => none) fun _ _ _ _ _ => none)) 0
 (Code.loop
 (Code.seq (Code.region 5 #[Oper.mk (some 18) (Op.binOp BinOp.lss 3 (Operand.tmp 17) (Operand.tmp 16) 3) 0 "l01_json.go:292" #[] none] false)
 (Code.seq (Code.cond (Operand.tmp 18) Code.skip (Code.exit 0))
 (Code.seq
 (Code.block 1
 (Code.seq
 (Code.region 6
 #[Oper.mk (some 19) (Op.indexAddr 23 (Operand.tmp 15) (Operand.tmp 17)) 0 "l01_json.go:292" #[] none,
 Oper.mk (some 20) (Op.load 25 (Operand.tmp 19)) 25 "l01_json.go:292" #[Edge.mk 0 Ground.data] none,
 Oper.mk (some 5) (Op.alloc 25) 0 "l01_json.go:292" #[] none,
 Oper.mk none (Op.store 25 (Operand.tmp 5) (Operand.tmp 20)) 0 "l01_json.go:292"
 #[Edge.mk 2 Ground.data, Edge.mk 1 Ground.data, Edge.mk 0 Ground.phase, Edge.mk 1 Ground.phase, Edge.mk 2 Ground.phase] none]
 false)
 (Code.region 7
 #[Oper.mk (some 21) (Op.move (Operand.tmp 3)) 3 "l01_json.go:293" #[] none,
 Oper.mk (some 22) (Op.load 25 (Operand.tmp 5)) 25 "l01_json.go:293" #[] none,
 Oper.mk (some 23) (Op.call (Call.mk (Callee.value (Operand.func 41)) #[Operand.tmp 22] #[25])) 3 "l01_json.go:293" #[Edge.mk 1 Ground.data]
 none,
 Oper.mk (some 24) (Op.call (Call.mk (Callee.builtin Builtin.max) #[Operand.tmp 21, Operand.tmp 23] #[3, 3])) 3 "l01_json.go:293"
 #[Edge.mk 0 Ground.data, Edge.mk 2 Ground.data] none,
 Oper.mk (some 3) (Op.assign (Operand.tmp 24)) 3 "l01_json.go:293"
 #[Edge.mk 3 Ground.data, Edge.mk 2 Ground.chain, Edge.mk 0 Ground.phase, Edge.mk 1 Ground.phase, Edge.mk 2 Ground.phase,
 Edge.mk 3 Ground.phase]
 none]
 false)))
 (Code.region 8
 #[Oper.mk (some 25) (Op.binOp BinOp.add 3 (Operand.tmp 17) (Operand.const (Value.int IntKind.i64 (1 : Int))) 3) 3 "l01_json.go:292" #[] none,
 Oper.mk (some 17) (Op.move (Operand.tmp 25)) 3 "l01_json.go:292" #[Edge.mk 0 Ground.data] none]
 false)))))
 (St.mk
 (mkTm 28
 [(3, V.int IntKind.i64 (0 : Int)), (15, V.dsl (List.length (J.items j)) false (encs encJ (J.items j))), (16, V.int IntKind.i64 (↑(List.length (J.items j)) : Int)),
 (17, V.int IntKind.i64 (0 : Int))])
 [] [])
 (Ex.exit 0) (St.mk (mkTm 28 [(3, V.int IntKind.i64 (↑(max 0 (jdeps (J.items j))) : Int))]) [] [])]
 (T.done (Ret.mk (V.int IntKind.i64 (IntKind.wrap IntKind.i64 ((↑(max 0 (jdeps (J.items j))) : Int) + (1 : Int)))) [] []))
 else
 T.bind PUnit.unit fun _ =>
 T.need
 [St.mk
 (mkTm 28
 [(3, V.int IntKind.i64 (0 : Int)), (15, V.dsl (List.length (J.items j)) false (encs encJ (J.items j))), (16, V.int IntKind.i64 (↑(List.length (J.items j)) : Int)),
 (17, V.int IntKind.i64 (0 : Int))])
 [] [] =
 St.mk
 (mkTm 28
 [(3, V.int IntKind.i64 (0 : Int)), (15, V.dsl (List.length (J.items j)) false (encs encJ (J.items j))), (16, V.int IntKind.i64 (↑(List.length (J.items j)) : Int)),
 (17, V.int IntKind.i64 (0 : Int))])
 [] [],
 SoundC (Env.P (Env.mk Tryz.prog vwA resND (lsDp j) [] [] none (MapE.mk (fun _ _ _ => none) fun _ _ _ _ => none) fun _ _ _ _ _ => none)) 0
 (Code.loop
 (Code.seq (Code.region 5 #[Oper.mk (some 18) (Op.binOp BinOp.lss 3 (Operand.tmp 17) (Operand.tmp 16) 3) 0 "l01_json.go:292" #[] none] false)
 (Code.seq (Code.cond (Operand.tmp 18) Code.skip (Code.exit 0))
 (Code.seq
 (Code.block 1
 (Code.seq
 (Code.region 6
 #[Oper.mk (some 19) (Op.indexAddr 23 (Operand.tmp 15) (Operand.tmp 17)) 0 "l01_json.go:292" #[] none,
 Oper.mk (some 20) (Op.load 25 (Operand.tmp 19)) 25 "l01_json.go:292" #[Edge.mk 0 Ground.data] none,
 Oper.mk (some 5) (Op.alloc 25) 0 "l01_json.go:292" #[] none,
 Oper.mk none (Op.store 25 (Operand.tmp 5) (Operand.tmp 20)) 0 "l01_json.go:292"
 #[Edge.mk 2 Ground.data, Edge.mk 1 Ground.data, Edge.mk 0 Ground.phase, Edge.mk 1 Ground.phase, Edge.mk 2 Ground.phase] none]
 false)
 (Code.region 7
 #[Oper.mk (some 21) (Op.move (Operand.tmp 3)) 3 "l01_json.go:293" #[] none,
 Oper.mk (some 22) (Op.load 25 (Operand.tmp 5)) 25 "l01_json.go:293" #[] none,
 Oper.mk (some 23) (Op.call (Call.mk (Callee.value (Operand.func 41)) #[Operand.tmp 22] #[25])) 3 "l01_json.go:293" #[Edge.mk 1 Ground.data] none,
 Oper.mk (some 24) (Op.call (Call.mk (Callee.builtin Builtin.max) #[Operand.tmp 21, Operand.tmp 23] #[3, 3])) 3 "l01_json.go:293"
 #[Edge.mk 0 Ground.data, Edge.mk 2 Ground.data] none,
 Oper.mk (some 3) (Op.assign (Operand.tmp 24)) 3 "l01_json.go:293"
 #[Edge.mk 3 Ground.data, Edge.mk 2 Ground.chain, Edge.mk 0 Ground.phase, Edge.mk 1 Ground.phase, Edge.mk 2 Ground.phase, Edge.mk 3 Ground.phase]
 none]
 false)))
 (Code.region 8
 #[Oper.mk (some 25) (Op.binOp BinOp.add 3 (Operand.tmp 17) (Operand.const (Value.int IntKind.i64 (1 : Int))) 3) 3 "l01_json.go:292" #[] none,
 Oper.mk (some 17) (Op.move (Operand.tmp 25)) 3 "l01_json.go:292" #[Edge.mk 0 Ground.data] none]
 false)))))
 (St.mk
 (mkTm 28
 [(3, V.int IntKind.i64 (0 : Int)), (15, V.dsl (List.length (J.items j)) false (encs encJ (J.items j))), (16, V.int IntKind.i64 (↑(List.length (J.items j)) : Int)),
 (17, V.int IntKind.i64 (0 : Int))])
 [] [])
 (Ex.exit 0) (St.mk (mkTm 28 [(3, V.int IntKind.i64 (↑(max 0 (jdeps (J.items j))) : Int))]) [] [])]
 (T.done (Ret.mk (V.int IntKind.i64 (IntKind.wrap IntKind.i64 ((↑(max 0 (jdeps (J.items j))) : Int) + (1 : Int)))) [] [])) := by kernel_rfl
theorem jdep_eq (j : J) : jdep j = if j.kind = 0 ∨ j.kind = 1 ∨ j.kind = 2 ∨ j.kind = 3 then 0 else jdeps j.items + 1 := by obtain ⟨k, n, t, ks, its⟩ := j; rw [jdep]; rfl
theorem depth_ok : ∀ (m : Nat) (j : J), jn j ≤ m → m ≤ 1000 → RJ j → FnOK Tryz.prog fDepth [.agg (vwJ j)] [] ⟨.int .i64 (jdep j : Nat), [], []⟩
  | 0, j, hm, _, _ => by rw [jn_eq] at hm; omega
  | m + 1, j, hm, hm2, hr => by
    have hn := jn_eq j
    have hl := jns_length j.items
    have hd := jdeps_jns j.items
    have hk := (part_flds hr.part).kind
    refine fnOK_TL (E := { P := Tryz.prog, vw := vwA, res := resND, ls := lsDp j }) follows named (depthT j) (by simp) ?_
    simp only [WP_cond, T.WP, All, and_true]
    have h := depth_loop j.items (fun x hx => depth_ok m x (by have := jns_mem x hx; omega) (by omega) (hr.item x hx)) (by omega) j.items.length 0 0 (by omega)
    rw [List.drop_zero] at h
    simp only [bne_iff_ne, bne_eq_false_iff_eq, ne_eq]
    have e := jdep_eq j
    rw [Nat.zero_max] at h ⊢
    have fin : ∀ c : Prop, (j.kind = 4 ∨ j.kind = 5) → ((jdep j : Nat) : Int) = IntKind.wrap .i64 (((jdeps j.items : Nat) : Int) + 1) := fun _ hc => by
      rw [e, if_neg (by omega), wrap_id (by omega)]; omega
    refine ⟨fun h4 => ⟨fun h5 => ?_, fun h5 => ?_⟩, fun h4 => ?_⟩
    · rw [e, if_pos (by omega)]; exact ⟨rfl, rfl, by simp⟩
    · rintro y -
      refine ⟨⟨trivial, .loopTo h⟩, ?_⟩
      rw [fin True (.inr h5)]; exact ⟨rfl, rfl, by simp⟩
    · rintro y -
      refine ⟨⟨trivial, .loopTo h⟩, ?_⟩
      rw [fin True (.inl h4)]; exact ⟨rfl, rfl, by simp⟩
theorem sdepth_loop (j : J) (hL : ∀ x ∈ j.items, FnOK Tryz.prog fSDepth [.agg (vwJ x)] [] ⟨.int .i64 (jdep x : Nat), [], []⟩) (hl : j.items.length ≤ 100000) : ∀ (m n i : Nat), i + m = j.items.length →
    LoopTo Tryz.prog 0 (lp Tryz.prog fSDepth 0) (stSd j n i) (.exit 0) ⟨mkTm 26 [(1, .ptr 0 0), (3, .int .i64 ((max n (jdeps (j.items.drop i)) : Nat) : Int))], [some (vwJ j, tJ)], []⟩
  | 0, n, i, h => by
    obtain rfl : i = j.items.length := h
    refine loopT (E := END) follows named (sdepthL j n _) ?_
    simp only [WP_cond, T.WP, All, decide_eq_true_eq, decide_eq_false_iff_not, and_true]
    refine ⟨fun h => by omega, fun _ => ⟨rfl, ?_⟩⟩
    rw [List.drop_length, jdeps, Nat.max_zero]
  | m + 1, n, i, h => by
    refine loopT (E := END) follows named (sdepthL j n i) ?_
    have hat := vwJ_at j.items i (by omega)
    simp only [WP_cond, T.WP, All, decide_eq_true_eq, decide_eq_false_iff_not, and_true, Int.toNat_natCast, layJ.decL, wrap_succ (show i < 9223372036854775807 by omega), show J.mk 0 0 [] [] [] = J.zero from rfl]
    refine ⟨fun _ => ⟨⟨by omega, hat⟩, ?_⟩, fun h => by omega⟩
    rintro y rfl
    rw [jOf_eta, max_if]
    have hx := hL _ (j_mem (L := j.items) (i := i) (by omega))
    have ih := sdepth_loop j hL hl m (max n (jdep (j.items.getD i J.zero))) (i + 1) (by omega)
    rw [← jdeps_step (by omega)] at ih
    exact ⟨hx, ih⟩
noncomputable def lsSd (j : J) : Nat → St → Option LRes := fun id _ => match id with
  | 0 => some ⟨(), fun _ => .one { keep := [1, 3, 4] } (stSd j 0 0) (.exit 0) ⟨mkTm 26 [(1, .ptr 0 0), (3, .int .i64 ((max 0 (jdeps j.items) : Nat) : Int))], [some (vwJ j, tJ)], []⟩⟩
  | _ => none
set_option maxRecDepth 100000 in
theorem sdepthT (j : J) : fnT { P := Tryz.prog, vw := vwA, res := resND, ls := lsSd j } 0 fSDepth [.agg (vwJ j)] [] =
 T.bind PUnit.unit fun _ =>
 T.need
 [St.mk (mkTm 26 [(1, V.ptr 0 0), (3, V.int IntKind.i64 (0 : Int)), (4, V.int IntKind.i64 (0 : Int))]) [some (vwJ j, 25)] [] =
 St.mk (mkTm 26 [(1, V.ptr 0 0), (3, V.int IntKind.i64 (0 : Int)), (4, V.int IntKind.i64 (0 : Int))]) [some (vwJ j, 25)] [],
 SoundC (Env.P (Env.mk Tryz.prog vwA resND (lsSd j) [] [] none (MapE.mk (fun _ _ _ => none) fun _ _ _ _ => none) fun _ _ _ _ _ => none)) 0
 (Code.loop
 (Code.seq
 (Code.seq
 (Code.region 3
 #[Oper.mk (some 5) (Op.move (Operand.tmp 4)) 3 "l01_json.go:272" #[] none,
 Oper.mk (some 6) (Op.fieldAddr 25 (Operand.tmp 1) 4) 0 "l01_json.go:272" #[] none,
 Oper.mk (some 7) (Op.load 23 (Operand.tmp 6)) 23 "l01_json.go:272" #[Edge.mk 1 Ground.data] none,
 Oper.mk (some 8) (Op.call (Call.mk (Callee.builtin Builtin.len) #[Operand.tmp 7] #[23])) 3 "l01_json.go:272" #[Edge.mk 2 Ground.data] none,
 Oper.mk (some 9) (Op.binOp BinOp.lss 3 (Operand.tmp 5) (Operand.tmp 8) 3) 4 "l01_json.go:272"
 #[Edge.mk 0 Ground.data, Edge.mk 3 Ground.data] none]
 false)
 (Code.cond (Operand.tmp 9) Code.skip (Code.exit 0)))
 (Code.seq
 (Code.block 1
 (Code.region 5
 #[Oper.mk (some 12) (Op.move (Operand.tmp 3)) 3 "l01_json.go:273" #[] none,
 Oper.mk (some 13) (Op.fieldAddr 25 (Operand.tmp 1) 4) 0 "l01_json.go:273" #[] none,
 Oper.mk (some 14) (Op.load 23 (Operand.tmp 13)) 23 "l01_json.go:273" #[Edge.mk 1 Ground.data] none,
 Oper.mk (some 15) (Op.move (Operand.tmp 4)) 3 "l01_json.go:273" #[] none,
 Oper.mk (some 16) (Op.indexAddr 23 (Operand.tmp 14) (Operand.tmp 15)) 0 "l01_json.go:273" #[Edge.mk 2 Ground.data, Edge.mk 3 Ground.data] none,
 Oper.mk (some 17) (Op.load 25 (Operand.tmp 16)) 25 "l01_json.go:273" #[Edge.mk 4 Ground.data] none,
 Oper.mk (some 18) (Op.call (Call.mk (Callee.value (Operand.func 42)) #[Operand.tmp 17] #[25])) 3 "l01_json.go:273" #[Edge.mk 5 Ground.data] none,
 Oper.mk (some 19) (Op.call (Call.mk (Callee.builtin Builtin.max) #[Operand.tmp 12, Operand.tmp 18] #[3, 3])) 3 "l01_json.go:273"
 #[Edge.mk 0 Ground.data, Edge.mk 6 Ground.data] none,
 Oper.mk (some 3) (Op.assign (Operand.tmp 19)) 3 "l01_json.go:273"
 #[Edge.mk 7 Ground.data, Edge.mk 6 Ground.chain, Edge.mk 0 Ground.phase, Edge.mk 1 Ground.phase, Edge.mk 2 Ground.phase, Edge.mk 3 Ground.phase,
 Edge.mk 4 Ground.phase, Edge.mk 5 Ground.phase, Edge.mk 6 Ground.phase, Edge.mk 7 Ground.phase]
 none]
 false))
 (Code.region 4
 #[Oper.mk (some 10) (Op.move (Operand.tmp 4)) 3 "l01_json.go:272" #[] none,
 Oper.mk (some 11) (Op.binOp BinOp.add 3 (Operand.tmp 10) (Operand.const (Value.int IntKind.i64 (1 : Int))) 3) 3 "l01_json.go:272" #[Edge.mk 0 Ground.data]
 none,
 Oper.mk (some 4) (Op.assign (Operand.tmp 11)) 3 "l01_json.go:272" #[Edge.mk 1 Ground.data, Edge.mk 0 Ground.phase, Edge.mk 1 Ground.phase] none]
 false))))
 (St.mk (mkTm 26 [(1, V.ptr 0 0), (3, V.int IntKind.i64 (0 : Int)), (4, V.int IntKind.i64 (0 : Int))]) [some (vwJ j, 25)] []) (Ex.exit 0)
 (St.mk (mkTm 26 [(1, V.ptr 0 0), (3, V.int IntKind.i64 (↑(max 0 (jdeps (J.items j))) : Int))]) [some (vwJ j, 25)] [])]
 (T.bind (Bool.toNat (decide (J.kind j ≥ (4 : Int)))) fun y1 =>
 T.need
 [FnOK (Env.P (Env.mk Tryz.prog vwA resND (lsSd j) [] [] none (MapE.mk (fun _ _ _ => none) fun _ _ _ _ => none) fun _ _ _ _ _ => none)) 63 [V.bool (decide (J.kind j ≥ (4 : Int)))] []
 (Ret.mk (V.int IntKind.i64 (↑y1 : Int)) [] [])]
 (T.done (Ret.mk (V.int IntKind.i64 (IntKind.wrap IntKind.i64 ((↑(max 0 (jdeps (J.items j))) : Int) + (↑y1 : Int)))) [] []))) := (T.force_eq _).symm.trans (by kernel_rfl)
theorem sdepth_ok : ∀ (m : Nat) (j : J), jn j ≤ m → m ≤ 1000 → RJ j → FnOK Tryz.prog fSDepth [.agg (vwJ j)] [] ⟨.int .i64 (jdep j : Nat), [], []⟩
  | 0, j, hm, _, _ => by rw [jn_eq] at hm; omega
  | m + 1, j, hm, hm2, hr => by
    have hn := jn_eq j
    have hl := jns_length j.items
    have hd := jdeps_jns j.items
    have hk := (part_flds hr.part).kind
    refine fnOK_TL (E := { P := Tryz.prog, vw := vwA, res := resND, ls := lsSd j }) follows named (sdepthT j) (by simp) ?_
    simp only [T.WP, All, and_true]
    have h := sdepth_loop j (fun x hx => sdepth_ok m x (by have := jns_mem x hx; omega) (by omega) (hr.item x hx)) (by omega) j.items.length 0 0 (by omega)
    rw [List.drop_zero] at h
    have e := jdep_eq j
    rw [Nat.zero_max] at h ⊢
    rintro y -
    refine ⟨⟨trivial, .loopTo h⟩, ?_⟩
    rintro y rfl
    refine ⟨bit_ok _, ?_⟩
    have fin : ((jdep j : Nat) : Int) = IntKind.wrap .i64 (((jdeps j.items : Nat) : Int) + (((decide (j.kind ≥ 4)).toNat : Nat) : Int)) := by
      rw [e]
      by_cases hc : j.kind ≥ 4
      · rw [if_neg (by omega), decide_eq_true hc, wrap_id (by simp; omega)]; simp
      · have h0 : j.items = [] := by
          obtain ⟨hz, hp⟩ := part_head hr.part
          cases hp with
          | null => rcases hz with hz | hz
                    · rw [hz]; rfl
                    · exact absurd rfl hz
          | lst => exact absurd (by decide : (4 : Int) ≥ 4) hc
          | obj _ _ => exact absurd (by decide : (5 : Int) ≥ 4) hc
          | _ => rfl
        rw [if_pos (by omega), decide_eq_false hc, h0]; rfl
    rw [fin]; exact ⟨rfl, rfl, by simp⟩
end Go.Proofs.YtfncaghjfgnnhaaGreatDoor

namespace Go.Proofs.YtfncaghjfgnnhaaGreatDoor
open Go.RowKit
set_option maxRecDepth 100000

abbrev fSIn : Nat := 61
abbrev fSText : Nat := 62
abbrev fSOK : Nat := 40
abbrev fSJOK : Nat := 35
abbrev fSPrintJ : Nat := 13
abbrev fSNodes : Nat := 18
abbrev fSDepJ : Nat := 20
abbrev fINodesJ : Nat := 17
abbrev fIDepJ : Nat := 19
noncomputable def resSO : ResT := fun f vs hp => match vs, hp with
  | [.agg [.int _ k, .int _ n, .str t, .dsl _ _ ks, .dsl _ _ its], .int _ _], [] => bif Nat.beq f fSOK then some ⟨jn (jOf k n t ks its), fun y => ⟨.tup [.int .i64 (y : Nat), .bool true], [], []⟩⟩ else none
  | [.int _ n, .int _ lo, .int _ hi], [] => bif Nat.beq f fSIn then some ⟨inB n lo hi, fun y => ⟨.bool y, [], []⟩⟩ else none
  | [.str t], [] => bif Nat.beq f fSText then some ⟨plainT t, fun y => ⟨.bool y, [], []⟩⟩ else none
  | _, _ => none
noncomputable def ESO : Env := { P := Tryz.prog, vw := vwA, res := resSO }
def stTq (t : List UInt8) (i : Int) : St := ⟨mkTm 23 [(0, .str t), (2, .bool false), (3, .int .i64 i)], [], []⟩
def nfTq : Ex → Kp := fun ex => match ex with
  | .ret => { keep := [2] }
  | _ => { keep := [0, 2, 3] }
def stOk (j : J) (dp n i : Int) : St := ⟨mkTm 178 [(1, .int .i64 dp), (2, .ptr 0 0), (7, .int .i64 n), (8, .int .i64 i)], [some (vwJ j, tJ)], []⟩
def nfOk : Ex → Kp := fun ex => match ex with
  | .normal => { keep := [1, 2, 7, 8] }
  | .ret => { keep := [4, 5] }
  | _ => { keep := [7] }
--FOLD vwJ
set_option maxRecDepth 100000 in
theorem sInT (n lo hi : Int) : fnT ESO 0 fSIn [.int .i64 n, .int .i64 lo, .int .i64 hi] [] =
 bif decide (lo ≤ n) then T.done (Ret.mk (V.bool (decide (n ≤ hi))) [] []) else T.done (Ret.mk (V.bool false) [] []) := by kernel_rfl
set_option maxRecDepth 100000 in
theorem sTextL (t : List UInt8) (i : Int) : bodyT ESO 0 nfTq (lp Tryz.prog fSText 0) (stTq t i) =
 bif decide (i < (↑(List.length t) : Int)) then
 T.need [(0 : Int) ≤ i ∧ i < (↑(List.length t) : Int)]
 (bif decide ((↑(UInt8.toNat (List.getD t (Int.toNat i) (0 : UInt8))) : Int) < (32 : Int)) then T.done (Ex.ret, St.mk (mkTm 23 [(2, V.bool false)]) [] [])
 else
 T.need [(0 : Int) ≤ i ∧ i < (↑(List.length t) : Int)]
 (bif decide ((↑(UInt8.toNat (List.getD t (Int.toNat i) (0 : UInt8))) : Int) > (126 : Int)) then T.done (Ex.ret, St.mk (mkTm 23 [(2, V.bool false)]) [] [])
 else T.done (Ex.normal, St.mk (mkTm 23 [(0, V.str t), (2, V.bool false), (3, V.int IntKind.i64 (IntKind.wrap IntKind.i64 (i + (1 : Int))))]) [] [])))
 else T.done (Ex.exit 0, St.mk (mkTm 23 [(0, V.str t), (2, V.bool false), (3, V.int IntKind.i64 i)]) [] []) := by kernel_rfl
set_option maxRecDepth 100000 in
theorem sOkL (j : J) (dp n i : Int) : bodyT ESO 0 nfOk (lp Tryz.prog fSOK 1) (stOk j dp n i) =
 bif decide (i < (↑(List.length (J.items j)) : Int)) then
 bif J.kind j == (5 : Int) then
 T.need
 [(0 : Int) ≤ i ∧ i < (↑(List.length (J.keys j)) : Int),
 List.take 1 (List.drop (Int.toNat i * 1) (encs encStr (J.keys j))) = [V.str (List.getD (decL encStr (encs encStr (J.keys j))) (Int.toNat i) [])]]
 (T.bind (plainT (List.getD (decL encStr (encs encStr (J.keys j))) (Int.toNat i) [])) fun y0 =>
 T.need [FnOK (Env.P ESO) 62 [V.str (List.getD (decL encStr (encs encStr (J.keys j))) (Int.toNat i) [])] [] (Ret.mk (V.bool y0) [] [])]
 (bif !y0 then T.done (Ex.ret, St.mk (mkTm 178 [(4, V.int IntKind.i64 (0 : Int)), (5, V.bool false)]) [] [])
 else
 bif decide (i > (0 : Int)) then
 T.need
 [(0 : Int) ≤ IntKind.wrap IntKind.i64 (i - (1 : Int)) ∧ IntKind.wrap IntKind.i64 (i - (1 : Int)) < (↑(List.length (J.keys j)) : Int),
 List.take 1 (List.drop (Int.toNat (IntKind.wrap IntKind.i64 (i - (1 : Int))) * 1) (encs encStr (J.keys j))) =
 [V.str (List.getD (decL encStr (encs encStr (J.keys j))) (Int.toNat (IntKind.wrap IntKind.i64 (i - (1 : Int)))) [])]]
 (T.need
 [(0 : Int) ≤ i ∧ i < (↑(List.length (J.keys j)) : Int),
 List.take 1 (List.drop (Int.toNat i * 1) (encs encStr (J.keys j))) = [V.str (List.getD (decL encStr (encs encStr (J.keys j))) (Int.toNat i) [])]]
 (bif !Op.bytesLess (List.getD (decL encStr (encs encStr (J.keys j))) (Int.toNat (IntKind.wrap IntKind.i64 (i - (1 : Int)))) []) (List.getD (decL encStr (encs encStr (J.keys j))) (Int.toNat i) []) then
 T.done (Ex.ret, St.mk (mkTm 178 [(4, V.int IntKind.i64 (0 : Int)), (5, V.bool false)]) [] [])
 else
 T.need
 [(0 : Int) ≤ i ∧ i < (↑(List.length (J.items j)) : Int),
 List.take 5 (List.drop (Int.toNat i * 5) (encs encJ (J.items j))) = vwJ (List.getD (decL encJ (encs encJ (J.items j))) (Int.toNat i) (J.mk (0 : Int) (0 : Int) [] [] []))]
 (T.bind
 (jn
 (jOf (J.kind (List.getD (decL encJ (encs encJ (J.items j))) (Int.toNat i) (J.mk (0 : Int) (0 : Int) [] [] [])))
 (J.n (List.getD (decL encJ (encs encJ (J.items j))) (Int.toNat i) (J.mk (0 : Int) (0 : Int) [] [] [])))
 (J.t (List.getD (decL encJ (encs encJ (J.items j))) (Int.toNat i) (J.mk (0 : Int) (0 : Int) [] [] [])))
 (encs encStr (J.keys (List.getD (decL encJ (encs encJ (J.items j))) (Int.toNat i) (J.mk (0 : Int) (0 : Int) [] [] []))))
 (encs encJ (J.items (List.getD (decL encJ (encs encJ (J.items j))) (Int.toNat i) (J.mk (0 : Int) (0 : Int) [] [] []))))))
 fun y1 =>
 T.need
 [FnOK (Env.P ESO) 40
 [V.agg (vwJ (List.getD (decL encJ (encs encJ (J.items j))) (Int.toNat i) (J.mk (0 : Int) (0 : Int) [] [] []))), V.int IntKind.i64 (IntKind.wrap IntKind.i64 (dp - (1 : Int)))] []
 (Ret.mk (V.tup [V.int IntKind.i64 (↑y1 : Int), V.bool true]) [] [])]
 (bif decide (IntKind.wrap IntKind.i64 (n + (↑y1 : Int)) > (400 : Int)) then T.done (Ex.ret, St.mk (mkTm 178 [(4, V.int IntKind.i64 (0 : Int)), (5, V.bool false)]) [] [])
 else
 T.done
 (Ex.normal,
 St.mk
 (mkTm 178
 [(1, V.int IntKind.i64 dp), (2, V.ptr 0 0), (7, V.int IntKind.i64 (IntKind.wrap IntKind.i64 (n + (↑y1 : Int)))),
 (8, V.int IntKind.i64 (IntKind.wrap IntKind.i64 (i + (1 : Int))))])
 [some (vwJ j, 25)] [])))))
 else
 T.need
 [(0 : Int) ≤ i ∧ i < (↑(List.length (J.items j)) : Int),
 List.take 5 (List.drop (Int.toNat i * 5) (encs encJ (J.items j))) = vwJ (List.getD (decL encJ (encs encJ (J.items j))) (Int.toNat i) (J.mk (0 : Int) (0 : Int) [] [] []))]
 (T.bind
 (jn
 (jOf (J.kind (List.getD (decL encJ (encs encJ (J.items j))) (Int.toNat i) (J.mk (0 : Int) (0 : Int) [] [] [])))
 (J.n (List.getD (decL encJ (encs encJ (J.items j))) (Int.toNat i) (J.mk (0 : Int) (0 : Int) [] [] [])))
 (J.t (List.getD (decL encJ (encs encJ (J.items j))) (Int.toNat i) (J.mk (0 : Int) (0 : Int) [] [] [])))
 (encs encStr (J.keys (List.getD (decL encJ (encs encJ (J.items j))) (Int.toNat i) (J.mk (0 : Int) (0 : Int) [] [] []))))
 (encs encJ (J.items (List.getD (decL encJ (encs encJ (J.items j))) (Int.toNat i) (J.mk (0 : Int) (0 : Int) [] [] []))))))
 fun y2 =>
 T.need
 [FnOK (Env.P ESO) 40
 [V.agg (vwJ (List.getD (decL encJ (encs encJ (J.items j))) (Int.toNat i) (J.mk (0 : Int) (0 : Int) [] [] []))), V.int IntKind.i64 (IntKind.wrap IntKind.i64 (dp - (1 : Int)))] []
 (Ret.mk (V.tup [V.int IntKind.i64 (↑y2 : Int), V.bool true]) [] [])]
 (bif decide (IntKind.wrap IntKind.i64 (n + (↑y2 : Int)) > (400 : Int)) then T.done (Ex.ret, St.mk (mkTm 178 [(4, V.int IntKind.i64 (0 : Int)), (5, V.bool false)]) [] [])
 else
 T.done
 (Ex.normal,
 St.mk
 (mkTm 178
 [(1, V.int IntKind.i64 dp), (2, V.ptr 0 0), (7, V.int IntKind.i64 (IntKind.wrap IntKind.i64 (n + (↑y2 : Int)))),
 (8, V.int IntKind.i64 (IntKind.wrap IntKind.i64 (i + (1 : Int))))])
 [some (vwJ j, 25)] [])))))
 else
 T.need
 [(0 : Int) ≤ i ∧ i < (↑(List.length (J.items j)) : Int),
 List.take 5 (List.drop (Int.toNat i * 5) (encs encJ (J.items j))) = vwJ (List.getD (decL encJ (encs encJ (J.items j))) (Int.toNat i) (J.mk (0 : Int) (0 : Int) [] [] []))]
 (T.bind
 (jn
 (jOf (J.kind (List.getD (decL encJ (encs encJ (J.items j))) (Int.toNat i) (J.mk (0 : Int) (0 : Int) [] [] [])))
 (J.n (List.getD (decL encJ (encs encJ (J.items j))) (Int.toNat i) (J.mk (0 : Int) (0 : Int) [] [] []))) (J.t (List.getD (decL encJ (encs encJ (J.items j))) (Int.toNat i) (J.mk (0 : Int) (0 : Int) [] [] [])))
 (encs encStr (J.keys (List.getD (decL encJ (encs encJ (J.items j))) (Int.toNat i) (J.mk (0 : Int) (0 : Int) [] [] []))))
 (encs encJ (J.items (List.getD (decL encJ (encs encJ (J.items j))) (Int.toNat i) (J.mk (0 : Int) (0 : Int) [] [] []))))))
 fun y3 =>
 T.need
 [FnOK (Env.P ESO) 40 [V.agg (vwJ (List.getD (decL encJ (encs encJ (J.items j))) (Int.toNat i) (J.mk (0 : Int) (0 : Int) [] [] []))), V.int IntKind.i64 (IntKind.wrap IntKind.i64 (dp - (1 : Int)))] []
 (Ret.mk (V.tup [V.int IntKind.i64 (↑y3 : Int), V.bool true]) [] [])]
 (bif decide (IntKind.wrap IntKind.i64 (n + (↑y3 : Int)) > (400 : Int)) then T.done (Ex.ret, St.mk (mkTm 178 [(4, V.int IntKind.i64 (0 : Int)), (5, V.bool false)]) [] [])
 else
 T.done
 (Ex.normal,
 St.mk
 (mkTm 178
 [(1, V.int IntKind.i64 dp), (2, V.ptr 0 0), (7, V.int IntKind.i64 (IntKind.wrap IntKind.i64 (n + (↑y3 : Int)))),
 (8, V.int IntKind.i64 (IntKind.wrap IntKind.i64 (i + (1 : Int))))])
 [some (vwJ j, 25)] [])))
 else T.done (Ex.exit 1, St.mk (mkTm 178 [(7, V.int IntKind.i64 n)]) [] []) := by kernel_rfl
theorem sIn_ok (n lo hi : Int) : FnOK Tryz.prog fSIn [.int .i64 n, .int .i64 lo, .int .i64 hi] [] ⟨.bool (inB n lo hi), [], []⟩ := by
  refine fnOK_TL (E := ESO) follows named (sInT n lo hi) (by simp) ?_
  simp only [WP_cond, T.WP, decide_eq_true_eq, decide_eq_false_iff_not]
  unfold inB
  refine ⟨fun h => ?_, fun h => ?_⟩
  · rw [decide_eq_true h]; exact ⟨rfl, rfl, by simp⟩
  · rw [decide_eq_false h]; exact ⟨rfl, rfl, by simp⟩
theorem sText_loop (t : List UInt8) (ht : t.length ≤ 4294967296) (hp : ∀ c ∈ t, 32 ≤ c.toNat ∧ c.toNat ≤ 126) : ∀ (m i : Nat), i + m = t.length → LoopTo Tryz.prog 0 (lp Tryz.prog fSText 0) (stTq t i) (.exit 0) (stTq t t.length)
  | 0, i, h => by
    obtain rfl : i = t.length := h
    refine loopT (E := ESO) follows named (sTextL t _) ?_
    simp only [WP_cond, T.WP, All, decide_eq_true_eq, decide_eq_false_iff_not, and_true]
    exact ⟨fun h => by omega, fun _ => ⟨rfl, rfl⟩⟩
  | m + 1, i, h => by
    refine loopT (E := ESO) follows named (sTextL t i) ?_
    simp only [WP_cond, T.WP, All, decide_eq_true_eq, decide_eq_false_iff_not, and_true, Int.toNat_natCast, wrap_succ (show i < 9223372036854775807 by omega)]
    have hc := hp (t.getD i 0) (by rw [List.getD_eq_getElem?_getD, List.getElem?_eq_getElem (by omega)]; exact List.getElem_mem _)
    refine ⟨fun _ => ⟨by omega, fun h => by omega, fun _ => ⟨by omega, fun h => by omega, fun _ => ?_⟩⟩, fun h => by omega⟩
    exact sText_loop t ht hp m (i + 1) (by omega)
noncomputable def lsTq : Nat → St → Option LRes := fun id s => match id, s.tm.get 0 with
  | 0, .str t => some ⟨(), fun _ => .one { keep := [0, 2, 3] } (stTq t 0) (.exit 0) (stTq t t.length)⟩
  | _, _ => none
set_option maxRecDepth 100000 in
theorem sTextT (t : List UInt8) : fnT { P := Tryz.prog, vw := vwA, res := res0, ls := lsTq } 0 fSText [.str t] [] =
 T.bind PUnit.unit fun _ =>
 T.need
 [St.mk (mkTm 23 [(0, V.str t), (2, V.bool false), (3, V.int IntKind.i64 (0 : Int))]) [] [] =
 St.mk (mkTm 23 [(0, V.str t), (2, V.bool false), (3, V.int IntKind.i64 (0 : Int))]) [] [],
 SoundC (Env.P (Env.mk Tryz.prog vwA res0 lsTq [] [] none (MapE.mk (fun _ _ _ => none) fun _ _ _ _ => none) fun _ _ _ _ _ => none)) 0
 (Code.loop
 (Code.seq
 (Code.seq
 (Code.region 2
 #[Oper.mk (some 4) (Op.move (Operand.tmp 3)) 3 "l01_json.go:16" #[] none, Oper.mk (some 5) (Op.move (Operand.tmp 0)) 9 "l01_json.go:16" #[] none,
 Oper.mk (some 6) (Op.call (Call.mk (Callee.builtin Builtin.len) #[Operand.tmp 5] #[9])) 3 "l01_json.go:16" #[Edge.mk 1 Ground.data] none,
 Oper.mk (some 7) (Op.binOp BinOp.lss 3 (Operand.tmp 4) (Operand.tmp 6) 3) 4 "l01_json.go:16"
 #[Edge.mk 0 Ground.data, Edge.mk 2 Ground.data] none]
 false)
 (Code.cond (Operand.tmp 7) Code.skip (Code.exit 0)))
 (Code.seq
 (Code.block 1
 (Code.seq
 (Code.region 4
 #[Oper.mk (some 10) (Op.move (Operand.tmp 0)) 9 "l01_json.go:17" #[] none, Oper.mk (some 11) (Op.move (Operand.tmp 3)) 3 "l01_json.go:17" #[] none,
 Oper.mk (some 12) (Op.index 9 (Operand.tmp 10) (Operand.tmp 11)) 5 "l01_json.go:17" #[Edge.mk 0 Ground.data, Edge.mk 1 Ground.data] none,
 Oper.mk (some 13) (Op.binOp BinOp.lss 5 (Operand.tmp 12) (Operand.const (Value.int IntKind.u8 (32 : Int))) 5) 4 "l01_json.go:17"
 #[Edge.mk 2 Ground.data] none,
 Oper.mk (some 14) (Op.move (Operand.tmp 13)) 4 "l01_json.go:17" #[Edge.mk 3 Ground.data] none,
 Oper.mk (some 15) (Op.move (Operand.tmp 0)) 9 "l01_json.go:17" #[Edge.mk 4 Ground.guard] (some (4, false)),
 Oper.mk (some 16) (Op.move (Operand.tmp 3)) 3 "l01_json.go:17" #[Edge.mk 4 Ground.guard] (some (4, false)),
 Oper.mk (some 17) (Op.index 9 (Operand.tmp 15) (Operand.tmp 16)) 5 "l01_json.go:17"
 #[Edge.mk 5 Ground.data, Edge.mk 6 Ground.data, Edge.mk 4 Ground.guard] (some (4, false)),
 Oper.mk (some 18) (Op.binOp BinOp.gtr 5 (Operand.tmp 17) (Operand.const (Value.int IntKind.u8 (126 : Int))) 5) 4 "l01_json.go:17"
 #[Edge.mk 7 Ground.data, Edge.mk 4 Ground.guard] (some (4, false)),
 Oper.mk (some 19) (Op.pick (Operand.tmp 14) (Operand.const (Value.bool true)) (Operand.tmp 18)) 4 "l01_json.go:17"
 #[Edge.mk 4 Ground.data, Edge.mk 8 Ground.data] none]
 false)
 (Code.cond (Operand.tmp 19) (Code.seq (Code.region 5 #[Oper.mk (some 2) (Op.assign (Operand.const (Value.bool false))) 4 "l01_json.go:18" #[] none] false) Code.ret)
 Code.skip)))
 (Code.region 3
 #[Oper.mk (some 8) (Op.move (Operand.tmp 3)) 3 "l01_json.go:16" #[] none,
 Oper.mk (some 9) (Op.binOp BinOp.add 3 (Operand.tmp 8) (Operand.const (Value.int IntKind.i64 (1 : Int))) 3) 3 "l01_json.go:16" #[Edge.mk 0 Ground.data]
 none,
 Oper.mk (some 3) (Op.assign (Operand.tmp 9)) 3 "l01_json.go:16" #[Edge.mk 1 Ground.data, Edge.mk 0 Ground.phase, Edge.mk 1 Ground.phase] none]
 false))))
 (St.mk (mkTm 23 [(0, V.str t), (2, V.bool false), (3, V.int IntKind.i64 (0 : Int))]) [] []) (Ex.exit 0)
 (St.mk (mkTm 23 [(0, V.str t), (2, V.bool false), (3, V.int IntKind.i64 (↑(List.length t) : Int))]) [] [])]
 (T.done (Ret.mk (V.bool (decide ((↑(List.length t) : Int) ≤ (200 : Int)))) [] [])) := (T.force_eq _).symm.trans (by kernel_rfl)
theorem sText_ok (t : List UInt8) (h : plainT t = true) : FnOK Tryz.prog fSText [.str t] [] ⟨.bool true, [], []⟩ := by
  refine fnOK_TL (E := { P := Tryz.prog, vw := vwA, res := res0, ls := lsTq }) follows named (sTextT t) (by simp) ?_
  have hl := plainT_len h
  simp only [T.WP, All, and_true]
  unfold plainT at h
  rw [Bool.and_eq_true, List.all_eq_true] at h
  rintro y -
  refine ⟨⟨trivial, .loopTo (sText_loop t (by omega) (fun c hc => by have := h.1 c hc; simpa using this) t.length 0 (by omega))⟩, ?_⟩
  rw [decide_eq_true (by omega)]
  exact ⟨rfl, rfl, by simp⟩
def RD (j : J) (d : Int) : Prop := ∃ room, 0 ≤ room ∧ (rightJ j d room).1 = true
theorem rightJs_item : ∀ (L : List J) (d room : Int), 0 ≤ room → (rightJs L d room).1 = true → ∀ x ∈ L, RD x d
  | [], d, room, h, hr, x, hx => by cases hx
  | y :: ys, d, room, h, hr, x, hx => by
    obtain ⟨h1, h2⟩ := rightJs_cons hr
    rcases List.mem_cons.1 hx with rfl | hx
    · exact ⟨room, h, h1⟩
    · rw [h2] at hr
      exact rightJs_item ys d _ (rightJ_room y d room h h1).1 hr x hx
theorem RD.item {j : J} {d : Int} (h : RD j d) : ∀ x ∈ j.items, RD x (d + 1) := by
  obtain ⟨room, h0, h⟩ := h
  obtain ⟨h1, h2, h3, h4⟩ := rightJ_in h
  rw [h4] at h
  exact rightJs_item _ _ _ h1 h
theorem RD.part {j : J} {d : Int} (h : RD j d) : partJ j = true ∧ d < 12 := by
  obtain ⟨room, h0, h⟩ := h
  obtain ⟨h1, h2, h3, h4⟩ := rightJ_in h
  exact ⟨h3, h2⟩
theorem areK_less {ks : List (List UInt8)} (h : areK ks = true) {i : Nat} (h0 : 0 < i) (hi : i < ks.length) : Op.bytesLess (ks.getD (i - 1) []) (ks.getD i []) = true := by
  have := (List.pairwise_iff_getElem.1 (areK_pw h)) (i - 1) i (by omega) hi (by omega)
  rw [bytesLess_eq, decide_eq_true_eq, List.getD_eq_getElem?_getD, List.getD_eq_getElem?_getD, List.getElem?_eq_getElem hi, List.getElem?_eq_getElem (by omega)]
  exact this
theorem k_mem {K : List (List UInt8)} {i : Nat} (h : i < K.length) : K.getD i [] ∈ K := by
  rw [List.getD_eq_getElem?_getD, List.getElem?_eq_getElem h]; exact List.getElem_mem _
theorem sOk_loop (j : J) (d : Int) (hd : 0 ≤ d ∧ d < 12) (hL : ∀ x ∈ j.items, FnOK Tryz.prog fSOK [.agg (vwJ x), .int .i64 (12 - (d + 1))] [] ⟨.tup [.int .i64 (jn x : Nat), .bool true], [], []⟩) (hk : j.kind = 5 → j.keys.length = j.items.length ∧ areK j.keys = true) :
    ∀ (m n i : Nat), i + m = j.items.length → n + jns (j.items.drop i) ≤ 400 → j.items.length ≤ 400 →
    LoopTo Tryz.prog 0 (lp Tryz.prog fSOK 1) (stOk j (12 - d) n i) (.exit 1) ⟨mkTm 178 [(7, .int .i64 ((n + jns (j.items.drop i) : Nat) : Int))], [], []⟩
  | 0, n, i, h, hb, hl => by
    obtain rfl : i = j.items.length := h
    refine loopT (E := ESO) follows named (sOkL j _ n _) ?_
    simp only [WP_cond, T.WP, All, decide_eq_true_eq, decide_eq_false_iff_not, and_true, beq_iff_eq, beq_eq_false_iff_ne, ne_eq]
    refine ⟨fun h => by omega, fun _ => ⟨rfl, ?_⟩⟩
    rw [List.drop_length, jns]; rfl
  | m + 1, n, i, h, hb, hl => by
    refine loopT (E := ESO) follows named (sOkL j _ n i) ?_
    have hat := vwJ_at j.items i (by omega)
    have hx := hL _ (j_mem (L := j.items) (i := i) (by omega))
    have hw : IntKind.i64.wrap (12 - d - 1) = 12 - (d + 1) := by rw [wrap_id (by omega)]; omega
    rw [j_drop (by omega), jns] at hb
    have ih := sOk_loop j d hd hL hk m (n + jn (j.items.getD i J.zero)) (i + 1) (by omega) (by omega) hl
    rw [j_drop (by omega), jns]
    rw [Nat.add_assoc] at ih
    have hn : IntKind.i64.wrap ((n : Int) + (jn (j.items.getD i J.zero) : Nat)) = ((n + jn (j.items.getD i J.zero) : Nat) : Int) := by rw [wrap_id (by omega)]; omega
    simp only [WP_cond, T.WP, All, decide_eq_true_eq, decide_eq_false_iff_not, and_true, beq_iff_eq, beq_eq_false_iff_ne, ne_eq, Int.toNat_natCast, layJ.decL, layStr.decL, wrap_succ (show i < 9223372036854775807 by omega), show J.mk 0 0 [] [] [] = J.zero from rfl]
    refine ⟨fun _ => ⟨fun h5 => ?_, fun h5 => ?_⟩, fun h => by omega⟩
    · obtain ⟨e1, e2⟩ := hk h5
      have hkt := layStr.at j.keys [] i 1 (by omega) rfl
      refine ⟨⟨by omega, hkt⟩, ?_⟩
      have hpl := areK_mem e2 _ (k_mem (K := j.keys) (i := i) (by omega))
      rintro y rfl
      rw [hpl]
      refine ⟨sText_ok _ hpl, fun h => by simp at h, fun _ => ⟨fun h0 => ?_, fun h0 => ?_⟩⟩
      · have hi1 : IntKind.i64.wrap ((i : Int) - 1) = ((i - 1 : Nat) : Int) := by rw [wrap_id (by omega)]; omega
        rw [hi1]
        simp only [Int.toNat_natCast]
        have hkt1 := layStr.at j.keys [] (i - 1) 1 (by omega) rfl
        have hls := areK_less e2 (i := i) (by omega) (by omega)
        refine ⟨⟨by omega, hkt1⟩, ⟨by omega, hkt⟩, fun h => by rw [hls] at h; simp at h, fun _ => ⟨⟨by omega, hat⟩, ?_⟩⟩
        rintro y rfl
        rw [jOf_eta, hw, hn]
        exact ⟨hx, fun h => by omega, fun _ => ih⟩
      · refine ⟨⟨by omega, hat⟩, ?_⟩
        rintro y rfl
        rw [jOf_eta, hw, hn]
        exact ⟨hx, fun h => by omega, fun _ => ih⟩
    · refine ⟨⟨by omega, hat⟩, ?_⟩
      rintro y rfl
      rw [jOf_eta, hw, hn]
      exact ⟨hx, fun h => by omega, fun _ => ih⟩
noncomputable def lsOk (j : J) (d : Int) : Nat → St → Option LRes := fun id _ => match id with
  | 1 => some ⟨(), fun _ => .one { keep := [1, 2, 7, 8] } (stOk j (12 - d) 1 0) (.exit 1) ⟨mkTm 178 [(7, .int .i64 ((1 + jns j.items : Nat) : Int))], [], []⟩⟩
  | _ => none
set_option maxRecDepth 100000 in
theorem sOkT0 (d : Int) : fnT ESO 0 fSOK [.agg (vwJ (J.mk 0 0 [] [] [])), .int .i64 (12 - d)] [] =
 bif (12 : Int) - d == (0 : Int) then T.done (Ret.mk (V.tup [V.int IntKind.i64 (0 : Int), V.bool false]) [] []) else T.done (Ret.mk (V.tup [V.int IntKind.i64 (1 : Int), V.bool true]) [] []) := by kernel_rfl
set_option maxRecDepth 100000 in
theorem sOkT1 (n d : Int) : fnT ESO 0 fSOK [.agg (vwJ (J.mk 1 n [] [] [])), .int .i64 (12 - d)] [] =
 bif (12 : Int) - d == (0 : Int) then T.done (Ret.mk (V.tup [V.int IntKind.i64 (0 : Int), V.bool false]) [] [])
 else
 T.bind (inB (J.n (J.mk (1 : Int) n [] [] [])) (0 : Int) (1 : Int)) fun y0 =>
 T.need [FnOK (Env.P ESO) 61 [V.int IntKind.i64 (J.n (J.mk (1 : Int) n [] [] [])), V.int IntKind.i64 (0 : Int), V.int IntKind.i64 (1 : Int)] [] (Ret.mk (V.bool y0) [] [])]
 (bif y0 then T.done (Ret.mk (V.tup [V.int IntKind.i64 (1 : Int), V.bool true]) [] []) else T.done (Ret.mk (V.tup [V.int IntKind.i64 (1 : Int), V.bool false]) [] [])) := by kernel_rfl
set_option maxRecDepth 100000 in
theorem sOkT2 (n d : Int) : fnT ESO 0 fSOK [.agg (vwJ (J.mk 2 n [] [] [])), .int .i64 (12 - d)] [] =
 bif (12 : Int) - d == (0 : Int) then T.done (Ret.mk (V.tup [V.int IntKind.i64 (0 : Int), V.bool false]) [] [])
 else
 T.bind (inB (J.n (J.mk (2 : Int) n [] [] [])) (-1000000000 : Int) (1000000000 : Int)) fun y0 =>
 T.need [FnOK (Env.P ESO) 61 [V.int IntKind.i64 (J.n (J.mk (2 : Int) n [] [] [])), V.int IntKind.i64 (-1000000000 : Int), V.int IntKind.i64 (1000000000 : Int)] [] (Ret.mk (V.bool y0) [] [])]
 (bif y0 then T.done (Ret.mk (V.tup [V.int IntKind.i64 (1 : Int), V.bool true]) [] []) else T.done (Ret.mk (V.tup [V.int IntKind.i64 (1 : Int), V.bool false]) [] [])) := by kernel_rfl
set_option maxRecDepth 100000 in
theorem sOkT3 (t : List UInt8) (d : Int) : fnT ESO 0 fSOK [.agg (vwJ (J.mk 3 0 t [] [])), .int .i64 (12 - d)] [] =
 bif (12 : Int) - d == (0 : Int) then T.done (Ret.mk (V.tup [V.int IntKind.i64 (0 : Int), V.bool false]) [] [])
 else
 T.bind (plainT (J.t (J.mk (3 : Int) (0 : Int) t [] []))) fun y0 =>
 T.need [FnOK (Env.P ESO) 62 [V.str (J.t (J.mk (3 : Int) (0 : Int) t [] []))] [] (Ret.mk (V.bool y0) [] [])] (T.done (Ret.mk (V.tup [V.int IntKind.i64 (1 : Int), V.bool y0]) [] [])) := by kernel_rfl
set_option maxRecDepth 100000 in
theorem sOkT4 (its : List J) (d : Int) : fnT { P := Tryz.prog, vw := vwA, res := resSO, ls := lsOk (J.mk 4 0 [] [] its) d } 0 fSOK [.agg (vwJ (J.mk 4 0 [] [] its)), .int .i64 (12 - d)] [] =
 bif (12 : Int) - d == (0 : Int) then T.done (Ret.mk (V.tup [V.int IntKind.i64 (0 : Int), V.bool false]) [] [])
 else
 T.bind PUnit.unit fun _ =>
 T.need
 [St.mk (mkTm 178 [(1, V.int IntKind.i64 ((12 : Int) - d)), (2, V.ptr 0 0), (7, V.int IntKind.i64 (1 : Int)), (8, V.int IntKind.i64 (0 : Int))])
 [some
 ([V.int IntKind.i64 (4 : Int), V.int IntKind.i64 (0 : Int), V.str (J.t (J.mk (4 : Int) (0 : Int) [] [] its)), V.dsl 0 false [],
 V.dsl (List.length (J.items (J.mk (4 : Int) (0 : Int) [] [] its))) false (encs encJ (J.items (J.mk (4 : Int) (0 : Int) [] [] its)))],
 25)]
 [] =
 St.mk (mkTm 178 [(1, V.int IntKind.i64 ((12 : Int) - d)), (2, V.ptr 0 0), (7, V.int IntKind.i64 (1 : Int)), (8, V.int IntKind.i64 (0 : Int))])
 [some
 ([V.int IntKind.i64 (4 : Int), V.int IntKind.i64 (0 : Int), V.str (J.t (J.mk (4 : Int) (0 : Int) [] [] its)), V.dsl 0 false [],
 V.dsl (List.length (J.items (J.mk (4 : Int) (0 : Int) [] [] its))) false (encs encJ (J.items (J.mk (4 : Int) (0 : Int) [] [] its)))],
 25)]
 [],
 SoundC (Env.P (Env.mk Tryz.prog vwA resSO (lsOk (J.mk (4 : Int) (0 : Int) [] [] its) d) [] [] none (MapE.mk (fun _ _ _ => none) fun _ _ _ _ => none) fun _ _ _ _ _ => none)) 0
 (Code.loop
 (Code.seq
 (Code.seq
 (Code.region 17
 #[Oper.mk (some 120) (Op.move (Operand.tmp 8)) 3 "l01_json.go:44" #[] none,
 Oper.mk (some 121) (Op.fieldAddr 25 (Operand.tmp 2) 4) 0 "l01_json.go:44" #[] none,
 Oper.mk (some 122) (Op.load 23 (Operand.tmp 121)) 23 "l01_json.go:44" #[Edge.mk 1 Ground.data] none,
 Oper.mk (some 123) (Op.call (Call.mk (Callee.builtin Builtin.len) #[Operand.tmp 122] #[23])) 3 "l01_json.go:44" #[Edge.mk 2 Ground.data] none,
 Oper.mk (some 124) (Op.binOp BinOp.lss 3 (Operand.tmp 120) (Operand.tmp 123) 3) 4 "l01_json.go:44"
 #[Edge.mk 0 Ground.data, Edge.mk 3 Ground.data] none]
 false)
 (Code.cond (Operand.tmp 124) Code.skip (Code.exit 1)))
 (Code.seq
 (Code.block 2
 (Code.seq
 (Code.seq
 (Code.region 19
 #[Oper.mk (some 127) (Op.fieldAddr 25 (Operand.tmp 2) 0) 0 "l01_json.go:45" #[] none,
 Oper.mk (some 128) (Op.load 3 (Operand.tmp 127)) 3 "l01_json.go:45" #[Edge.mk 0 Ground.data] none,
 Oper.mk (some 129) (Op.binOp BinOp.eql 3 (Operand.tmp 128) (Operand.const (Value.int IntKind.i64 (5 : Int))) 3) 4 "l01_json.go:45"
 #[Edge.mk 1 Ground.data] none,
 Oper.mk (some 130) (Op.move (Operand.tmp 129)) 4 "l01_json.go:45" #[Edge.mk 2 Ground.data] none,
 Oper.mk (some 131) (Op.fieldAddr 25 (Operand.tmp 2) 3) 0 "l01_json.go:45" #[Edge.mk 3 Ground.guard] (some (3, true)),
 Oper.mk (some 132) (Op.load 22 (Operand.tmp 131)) 22 "l01_json.go:45" #[Edge.mk 4 Ground.data, Edge.mk 3 Ground.guard] (some (3, true)),
 Oper.mk (some 133) (Op.move (Operand.tmp 8)) 3 "l01_json.go:45" #[Edge.mk 3 Ground.guard] (some (3, true)),
 Oper.mk (some 134) (Op.indexAddr 22 (Operand.tmp 132) (Operand.tmp 133)) 0 "l01_json.go:45"
 #[Edge.mk 5 Ground.data, Edge.mk 6 Ground.data, Edge.mk 3 Ground.guard] (some (3, true)),
 Oper.mk (some 135) (Op.load 9 (Operand.tmp 134)) 9 "l01_json.go:45" #[Edge.mk 7 Ground.data, Edge.mk 3 Ground.guard] (some (3, true)),
 Oper.mk (some 136) (Op.call (Call.mk (Callee.value (Operand.func 62)) #[Operand.tmp 135] #[9])) 4 "l01_json.go:45"
 #[Edge.mk 8 Ground.data, Edge.mk 3 Ground.chain, Edge.mk 3 Ground.guard] (some (3, true)),
 Oper.mk (some 137) (Op.unOp UnOp.not 4 (Operand.tmp 136)) 4 "l01_json.go:45" #[Edge.mk 9 Ground.data, Edge.mk 3 Ground.guard]
 (some (3, true)),
 Oper.mk (some 138) (Op.move (Operand.tmp 137)) 4 "l01_json.go:45" #[Edge.mk 10 Ground.data, Edge.mk 9 Ground.chain, Edge.mk 3 Ground.guard]
 (some (3, true)),
 Oper.mk (some 139) (Op.move (Operand.tmp 8)) 3 "l01_json.go:45" #[Edge.mk 11 Ground.guard] (some (11, false)),
 Oper.mk (some 140) (Op.binOp BinOp.gtr 3 (Operand.tmp 139) (Operand.const (Value.int IntKind.i64 (0 : Int))) 3) 4 "l01_json.go:45"
 #[Edge.mk 12 Ground.data, Edge.mk 11 Ground.guard] (some (11, false)),
 Oper.mk (some 141) (Op.move (Operand.tmp 140)) 4 "l01_json.go:45" #[Edge.mk 13 Ground.data, Edge.mk 11 Ground.chain, Edge.mk 11 Ground.guard]
 (some (11, false)),
 Oper.mk (some 142) (Op.fieldAddr 25 (Operand.tmp 2) 3) 0 "l01_json.go:45" #[Edge.mk 14 Ground.guard] (some (14, true)),
 Oper.mk (some 143) (Op.load 22 (Operand.tmp 142)) 22 "l01_json.go:45" #[Edge.mk 15 Ground.data, Edge.mk 14 Ground.guard]
 (some (14, true)),
 Oper.mk (some 144) (Op.move (Operand.tmp 8)) 3 "l01_json.go:45" #[Edge.mk 14 Ground.guard] (some (14, true)),
 Oper.mk (some 145) (Op.binOp BinOp.sub 3 (Operand.tmp 144) (Operand.const (Value.int IntKind.i64 (1 : Int))) 3) 3 "l01_json.go:45"
 #[Edge.mk 17 Ground.data, Edge.mk 14 Ground.guard] (some (14, true)),
 Oper.mk (some 146) (Op.indexAddr 22 (Operand.tmp 143) (Operand.tmp 145)) 0 "l01_json.go:45"
 #[Edge.mk 16 Ground.data, Edge.mk 18 Ground.data, Edge.mk 14 Ground.guard] (some (14, true)),
 Oper.mk (some 147) (Op.load 9 (Operand.tmp 146)) 9 "l01_json.go:45" #[Edge.mk 19 Ground.data, Edge.mk 14 Ground.guard] (some (14, true)),
 Oper.mk (some 148) (Op.fieldAddr 25 (Operand.tmp 2) 3) 0 "l01_json.go:45" #[Edge.mk 14 Ground.guard] (some (14, true)),
 Oper.mk (some 149) (Op.load 22 (Operand.tmp 148)) 22 "l01_json.go:45" #[Edge.mk 21 Ground.data, Edge.mk 14 Ground.guard]
 (some (14, true)),
 Oper.mk (some 150) (Op.move (Operand.tmp 8)) 3 "l01_json.go:45" #[Edge.mk 14 Ground.guard] (some (14, true)),
 Oper.mk (some 151) (Op.indexAddr 22 (Operand.tmp 149) (Operand.tmp 150)) 0 "l01_json.go:45"
 #[Edge.mk 22 Ground.data, Edge.mk 23 Ground.data, Edge.mk 14 Ground.guard] (some (14, true)),
 Oper.mk (some 152) (Op.load 9 (Operand.tmp 151)) 9 "l01_json.go:45" #[Edge.mk 24 Ground.data, Edge.mk 14 Ground.guard] (some (14, true)),
 Oper.mk (some 153) (Op.binOp BinOp.geq 9 (Operand.tmp 147) (Operand.tmp 152) 9) 4 "l01_json.go:45"
 #[Edge.mk 20 Ground.data, Edge.mk 25 Ground.data, Edge.mk 14 Ground.guard] (some (14, true)),
 Oper.mk (some 154) (Op.pick (Operand.tmp 141) (Operand.tmp 153) (Operand.const (Value.bool false))) 4 "l01_json.go:45"
 #[Edge.mk 14 Ground.data, Edge.mk 26 Ground.data, Edge.mk 11 Ground.guard] (some (11, false)),
 Oper.mk (some 155) (Op.pick (Operand.tmp 138) (Operand.const (Value.bool true)) (Operand.tmp 154)) 4 "l01_json.go:45"
 #[Edge.mk 11 Ground.data, Edge.mk 27 Ground.data, Edge.mk 3 Ground.guard] (some (3, true)),
 Oper.mk (some 156) (Op.pick (Operand.tmp 130) (Operand.tmp 155) (Operand.const (Value.bool false))) 4 "l01_json.go:45"
 #[Edge.mk 3 Ground.data, Edge.mk 28 Ground.data] none]
 true)
 (Code.cond (Operand.tmp 156)
 (Code.seq
 (Code.region 20
 #[Oper.mk (some 4) (Op.assign (Operand.const (Value.int IntKind.i64 (0 : Int)))) 3 "l01_json.go:46" #[] none,
 Oper.mk (some 5) (Op.assign (Operand.const (Value.bool false))) 4 "l01_json.go:46" #[Edge.mk 0 Ground.chain, Edge.mk 0 Ground.phase] none]
 false)
 Code.ret)
 Code.skip))
 (Code.seq
 (Code.region 21
 #[Oper.mk (some 158) (Op.fieldAddr 25 (Operand.tmp 2) 4) 0 "l01_json.go:48" #[] none,
 Oper.mk (some 159) (Op.load 23 (Operand.tmp 158)) 23 "l01_json.go:48" #[Edge.mk 0 Ground.data] none,
 Oper.mk (some 160) (Op.move (Operand.tmp 8)) 3 "l01_json.go:48" #[] none,
 Oper.mk (some 161) (Op.indexAddr 23 (Operand.tmp 159) (Operand.tmp 160)) 0 "l01_json.go:48"
 #[Edge.mk 1 Ground.data, Edge.mk 2 Ground.data] none,
 Oper.mk (some 162) (Op.load 25 (Operand.tmp 161)) 25 "l01_json.go:48" #[Edge.mk 3 Ground.data] none,
 Oper.mk (some 163) (Op.move (Operand.tmp 1)) 3 "l01_json.go:48" #[] none,
 Oper.mk (some 164) (Op.binOp BinOp.sub 3 (Operand.tmp 163) (Operand.const (Value.int IntKind.i64 (1 : Int))) 3) 3 "l01_json.go:48"
 #[Edge.mk 5 Ground.data] none,
 Oper.mk (some 165) (Op.call (Call.mk (Callee.value (Operand.func 40)) #[Operand.tmp 162, Operand.tmp 164] #[25, 3])) 56 "l01_json.go:48"
 #[Edge.mk 4 Ground.data, Edge.mk 6 Ground.data] none,
 Oper.mk (some 157) (Op.move (Operand.tmp 165)) 56 "l01_json.go:48" #[Edge.mk 7 Ground.data] none,
 Oper.mk (some 166) (Op.extract (Operand.tmp 157) 0) 3 "l01_json.go:48" #[Edge.mk 8 Ground.data] none,
 Oper.mk (some 167) (Op.extract (Operand.tmp 157) 1) 4 "l01_json.go:48" #[Edge.mk 8 Ground.data, Edge.mk 11 (Ground.gcOnly Departure.lateStores)]
 none,
 Oper.mk (some 9) (Op.assign (Operand.tmp 166)) 3 "l01_json.go:48"
 #[Edge.mk 9 Ground.data, Edge.mk 7 Ground.chain, Edge.mk 0 Ground.phase, Edge.mk 1 Ground.phase, Edge.mk 2 Ground.phase, Edge.mk 3 Ground.phase,
 Edge.mk 4 Ground.phase, Edge.mk 5 Ground.phase, Edge.mk 6 Ground.phase, Edge.mk 7 Ground.phase, Edge.mk 8 Ground.phase,
 Edge.mk 9 Ground.phase, Edge.mk 10 (Ground.textOnly Departure.lateStores)]
 none,
 Oper.mk (some 10) (Op.assign (Operand.tmp 167)) 4 "l01_json.go:48"
 #[Edge.mk 10 Ground.data, Edge.mk 11 Ground.chain, Edge.mk 0 Ground.phase, Edge.mk 1 Ground.phase, Edge.mk 2 Ground.phase,
 Edge.mk 3 Ground.phase, Edge.mk 4 Ground.phase, Edge.mk 5 Ground.phase, Edge.mk 6 Ground.phase, Edge.mk 7 Ground.phase,
 Edge.mk 8 Ground.phase, Edge.mk 9 Ground.phase, Edge.mk 10 Ground.phase, Edge.mk 11 Ground.phase]
 none]
 false)
 (Code.seq
 (Code.region 22
 #[Oper.mk (some 168) (Op.move (Operand.tmp 7)) 3 "l01_json.go:49" #[] none,
 Oper.mk (some 169) (Op.move (Operand.tmp 9)) 3 "l01_json.go:49" #[] none,
 Oper.mk (some 170) (Op.binOp BinOp.add 3 (Operand.tmp 168) (Operand.tmp 169) 3) 3 "l01_json.go:49"
 #[Edge.mk 0 Ground.data, Edge.mk 1 Ground.data] none,
 Oper.mk (some 7) (Op.assign (Operand.tmp 170)) 3 "l01_json.go:49"
 #[Edge.mk 2 Ground.data, Edge.mk 0 Ground.phase, Edge.mk 1 Ground.phase, Edge.mk 2 Ground.phase] none]
 false)
 (Code.seq
 (Code.region 23
 #[Oper.mk (some 171) (Op.move (Operand.tmp 10)) 4 "l01_json.go:50" #[] none,
 Oper.mk (some 172) (Op.unOp UnOp.not 4 (Operand.tmp 171)) 4 "l01_json.go:50" #[Edge.mk 0 Ground.data] none,
 Oper.mk (some 173) (Op.move (Operand.tmp 172)) 4 "l01_json.go:50" #[Edge.mk 1 Ground.data] none,
 Oper.mk (some 174) (Op.move (Operand.tmp 7)) 3 "l01_json.go:50" #[Edge.mk 2 Ground.guard] (some (2, false)),
 Oper.mk (some 175) (Op.binOp BinOp.gtr 3 (Operand.tmp 174) (Operand.const (Value.int IntKind.i64 (400 : Int))) 3) 4 "l01_json.go:50"
 #[Edge.mk 3 Ground.data, Edge.mk 2 Ground.guard] (some (2, false)),
 Oper.mk (some 176) (Op.pick (Operand.tmp 173) (Operand.const (Value.bool true)) (Operand.tmp 175)) 4 "l01_json.go:50"
 #[Edge.mk 2 Ground.data, Edge.mk 4 Ground.data] none]
 false)
 (Code.cond (Operand.tmp 176)
 (Code.seq
 (Code.region 24
 #[Oper.mk (some 4) (Op.assign (Operand.const (Value.int IntKind.i64 (0 : Int)))) 3 "l01_json.go:51" #[] none,
 Oper.mk (some 5) (Op.assign (Operand.const (Value.bool false))) 4 "l01_json.go:51" #[Edge.mk 0 Ground.chain, Edge.mk 0 Ground.phase] none]
 false)
 Code.ret)
 Code.skip))))))
 (Code.region 18
 #[Oper.mk (some 125) (Op.move (Operand.tmp 8)) 3 "l01_json.go:44" #[] none,
 Oper.mk (some 126) (Op.binOp BinOp.add 3 (Operand.tmp 125) (Operand.const (Value.int IntKind.i64 (1 : Int))) 3) 3 "l01_json.go:44"
 #[Edge.mk 0 Ground.data] none,
 Oper.mk (some 8) (Op.assign (Operand.tmp 126)) 3 "l01_json.go:44" #[Edge.mk 1 Ground.data, Edge.mk 0 Ground.phase, Edge.mk 1 Ground.phase] none]
 false))))
 (St.mk (mkTm 178 [(1, V.int IntKind.i64 ((12 : Int) - d)), (2, V.ptr 0 0), (7, V.int IntKind.i64 (1 : Int)), (8, V.int IntKind.i64 (0 : Int))])
 [some
 ([V.int IntKind.i64 (4 : Int), V.int IntKind.i64 (0 : Int), V.str (J.t (J.mk (4 : Int) (0 : Int) [] [] its)), V.dsl 0 false [],
 V.dsl (List.length (J.items (J.mk (4 : Int) (0 : Int) [] [] its))) false (encs encJ (J.items (J.mk (4 : Int) (0 : Int) [] [] its)))],
 25)]
 [])
 (Ex.exit 1) (St.mk (mkTm 178 [(7, V.int IntKind.i64 (↑(1 + jns (J.items (J.mk (4 : Int) (0 : Int) [] [] its))) : Int))]) [] [])]
 (T.done (Ret.mk (V.tup [V.int IntKind.i64 (↑(1 + jns (J.items (J.mk (4 : Int) (0 : Int) [] [] its))) : Int), V.bool true]) [] [])) := by kernel_rfl
set_option maxRecDepth 100000 in
theorem sOkT5 (ks : List (List UInt8)) (its : List J) (d : Int) : fnT { P := Tryz.prog, vw := vwA, res := resSO, ls := lsOk (J.mk 5 0 [] ks its) d } 0 fSOK [.agg (vwJ (J.mk 5 0 [] ks its)), .int .i64 (12 - d)] [] =
 bif (12 : Int) - d == (0 : Int) then T.done (Ret.mk (V.tup [V.int IntKind.i64 (0 : Int), V.bool false]) [] [])
 else
 bif (↑(List.length (J.keys (J.mk (5 : Int) (0 : Int) [] ks its))) : Int) == (0 : Int) then
 bif (↑(List.length (J.keys (J.mk (5 : Int) (0 : Int) [] ks its))) : Int) != (↑(List.length (J.items (J.mk (5 : Int) (0 : Int) [] ks its))) : Int) then
 T.done (Ret.mk (V.tup [V.int IntKind.i64 (0 : Int), V.bool false]) [] [])
 else
 T.bind PUnit.unit fun _ =>
 T.need
 [St.mk (mkTm 178 [(1, V.int IntKind.i64 ((12 : Int) - d)), (2, V.ptr 0 0), (7, V.int IntKind.i64 (1 : Int)), (8, V.int IntKind.i64 (0 : Int))])
 [some
 ([V.int IntKind.i64 (5 : Int), V.int IntKind.i64 (0 : Int), V.str (J.t (J.mk (5 : Int) (0 : Int) [] ks its)),
 V.dsl (List.length (J.keys (J.mk (5 : Int) (0 : Int) [] ks its))) false (encs encStr (J.keys (J.mk (5 : Int) (0 : Int) [] ks its))),
 V.dsl (List.length (J.items (J.mk (5 : Int) (0 : Int) [] ks its))) false (encs encJ (J.items (J.mk (5 : Int) (0 : Int) [] ks its)))],
 25)]
 [] =
 St.mk (mkTm 178 [(1, V.int IntKind.i64 ((12 : Int) - d)), (2, V.ptr 0 0), (7, V.int IntKind.i64 (1 : Int)), (8, V.int IntKind.i64 (0 : Int))])
 [some
 ([V.int IntKind.i64 (5 : Int), V.int IntKind.i64 (0 : Int), V.str (J.t (J.mk (5 : Int) (0 : Int) [] ks its)),
 V.dsl (List.length (J.keys (J.mk (5 : Int) (0 : Int) [] ks its))) false (encs encStr (J.keys (J.mk (5 : Int) (0 : Int) [] ks its))),
 V.dsl (List.length (J.items (J.mk (5 : Int) (0 : Int) [] ks its))) false (encs encJ (J.items (J.mk (5 : Int) (0 : Int) [] ks its)))],
 25)]
 [],
 SoundC (Env.P (Env.mk Tryz.prog vwA resSO (lsOk (J.mk (5 : Int) (0 : Int) [] ks its) d) [] [] none (MapE.mk (fun _ _ _ => none) fun _ _ _ _ => none) fun _ _ _ _ _ => none)) 0
 (Code.loop
 (Code.seq
 (Code.seq
 (Code.region 17
 #[Oper.mk (some 120) (Op.move (Operand.tmp 8)) 3 "l01_json.go:44" #[] none,
 Oper.mk (some 121) (Op.fieldAddr 25 (Operand.tmp 2) 4) 0 "l01_json.go:44" #[] none,
 Oper.mk (some 122) (Op.load 23 (Operand.tmp 121)) 23 "l01_json.go:44" #[Edge.mk 1 Ground.data] none,
 Oper.mk (some 123) (Op.call (Call.mk (Callee.builtin Builtin.len) #[Operand.tmp 122] #[23])) 3 "l01_json.go:44" #[Edge.mk 2 Ground.data] none,
 Oper.mk (some 124) (Op.binOp BinOp.lss 3 (Operand.tmp 120) (Operand.tmp 123) 3) 4 "l01_json.go:44"
 #[Edge.mk 0 Ground.data, Edge.mk 3 Ground.data] none]
 false)
 (Code.cond (Operand.tmp 124) Code.skip (Code.exit 1)))
 (Code.seq
 (Code.block 2
 (Code.seq
 (Code.seq
 (Code.region 19
 #[Oper.mk (some 127) (Op.fieldAddr 25 (Operand.tmp 2) 0) 0 "l01_json.go:45" #[] none,
 Oper.mk (some 128) (Op.load 3 (Operand.tmp 127)) 3 "l01_json.go:45" #[Edge.mk 0 Ground.data] none,
 Oper.mk (some 129) (Op.binOp BinOp.eql 3 (Operand.tmp 128) (Operand.const (Value.int IntKind.i64 (5 : Int))) 3) 4 "l01_json.go:45"
 #[Edge.mk 1 Ground.data] none,
 Oper.mk (some 130) (Op.move (Operand.tmp 129)) 4 "l01_json.go:45" #[Edge.mk 2 Ground.data] none,
 Oper.mk (some 131) (Op.fieldAddr 25 (Operand.tmp 2) 3) 0 "l01_json.go:45" #[Edge.mk 3 Ground.guard] (some (3, true)),
 Oper.mk (some 132) (Op.load 22 (Operand.tmp 131)) 22 "l01_json.go:45" #[Edge.mk 4 Ground.data, Edge.mk 3 Ground.guard]
 (some (3, true)),
 Oper.mk (some 133) (Op.move (Operand.tmp 8)) 3 "l01_json.go:45" #[Edge.mk 3 Ground.guard] (some (3, true)),
 Oper.mk (some 134) (Op.indexAddr 22 (Operand.tmp 132) (Operand.tmp 133)) 0 "l01_json.go:45"
 #[Edge.mk 5 Ground.data, Edge.mk 6 Ground.data, Edge.mk 3 Ground.guard] (some (3, true)),
 Oper.mk (some 135) (Op.load 9 (Operand.tmp 134)) 9 "l01_json.go:45" #[Edge.mk 7 Ground.data, Edge.mk 3 Ground.guard] (some (3, true)),
 Oper.mk (some 136) (Op.call (Call.mk (Callee.value (Operand.func 62)) #[Operand.tmp 135] #[9])) 4 "l01_json.go:45"
 #[Edge.mk 8 Ground.data, Edge.mk 3 Ground.chain, Edge.mk 3 Ground.guard] (some (3, true)),
 Oper.mk (some 137) (Op.unOp UnOp.not 4 (Operand.tmp 136)) 4 "l01_json.go:45" #[Edge.mk 9 Ground.data, Edge.mk 3 Ground.guard]
 (some (3, true)),
 Oper.mk (some 138) (Op.move (Operand.tmp 137)) 4 "l01_json.go:45" #[Edge.mk 10 Ground.data, Edge.mk 9 Ground.chain, Edge.mk 3 Ground.guard]
 (some (3, true)),
 Oper.mk (some 139) (Op.move (Operand.tmp 8)) 3 "l01_json.go:45" #[Edge.mk 11 Ground.guard] (some (11, false)),
 Oper.mk (some 140) (Op.binOp BinOp.gtr 3 (Operand.tmp 139) (Operand.const (Value.int IntKind.i64 (0 : Int))) 3) 4 "l01_json.go:45"
 #[Edge.mk 12 Ground.data, Edge.mk 11 Ground.guard] (some (11, false)),
 Oper.mk (some 141) (Op.move (Operand.tmp 140)) 4 "l01_json.go:45" #[Edge.mk 13 Ground.data, Edge.mk 11 Ground.chain, Edge.mk 11 Ground.guard]
 (some (11, false)),
 Oper.mk (some 142) (Op.fieldAddr 25 (Operand.tmp 2) 3) 0 "l01_json.go:45" #[Edge.mk 14 Ground.guard] (some (14, true)),
 Oper.mk (some 143) (Op.load 22 (Operand.tmp 142)) 22 "l01_json.go:45" #[Edge.mk 15 Ground.data, Edge.mk 14 Ground.guard]
 (some (14, true)),
 Oper.mk (some 144) (Op.move (Operand.tmp 8)) 3 "l01_json.go:45" #[Edge.mk 14 Ground.guard] (some (14, true)),
 Oper.mk (some 145) (Op.binOp BinOp.sub 3 (Operand.tmp 144) (Operand.const (Value.int IntKind.i64 (1 : Int))) 3) 3 "l01_json.go:45"
 #[Edge.mk 17 Ground.data, Edge.mk 14 Ground.guard] (some (14, true)),
 Oper.mk (some 146) (Op.indexAddr 22 (Operand.tmp 143) (Operand.tmp 145)) 0 "l01_json.go:45"
 #[Edge.mk 16 Ground.data, Edge.mk 18 Ground.data, Edge.mk 14 Ground.guard] (some (14, true)),
 Oper.mk (some 147) (Op.load 9 (Operand.tmp 146)) 9 "l01_json.go:45" #[Edge.mk 19 Ground.data, Edge.mk 14 Ground.guard]
 (some (14, true)),
 Oper.mk (some 148) (Op.fieldAddr 25 (Operand.tmp 2) 3) 0 "l01_json.go:45" #[Edge.mk 14 Ground.guard] (some (14, true)),
 Oper.mk (some 149) (Op.load 22 (Operand.tmp 148)) 22 "l01_json.go:45" #[Edge.mk 21 Ground.data, Edge.mk 14 Ground.guard]
 (some (14, true)),
 Oper.mk (some 150) (Op.move (Operand.tmp 8)) 3 "l01_json.go:45" #[Edge.mk 14 Ground.guard] (some (14, true)),
 Oper.mk (some 151) (Op.indexAddr 22 (Operand.tmp 149) (Operand.tmp 150)) 0 "l01_json.go:45"
 #[Edge.mk 22 Ground.data, Edge.mk 23 Ground.data, Edge.mk 14 Ground.guard] (some (14, true)),
 Oper.mk (some 152) (Op.load 9 (Operand.tmp 151)) 9 "l01_json.go:45" #[Edge.mk 24 Ground.data, Edge.mk 14 Ground.guard]
 (some (14, true)),
 Oper.mk (some 153) (Op.binOp BinOp.geq 9 (Operand.tmp 147) (Operand.tmp 152) 9) 4 "l01_json.go:45"
 #[Edge.mk 20 Ground.data, Edge.mk 25 Ground.data, Edge.mk 14 Ground.guard] (some (14, true)),
 Oper.mk (some 154) (Op.pick (Operand.tmp 141) (Operand.tmp 153) (Operand.const (Value.bool false))) 4 "l01_json.go:45"
 #[Edge.mk 14 Ground.data, Edge.mk 26 Ground.data, Edge.mk 11 Ground.guard] (some (11, false)),
 Oper.mk (some 155) (Op.pick (Operand.tmp 138) (Operand.const (Value.bool true)) (Operand.tmp 154)) 4 "l01_json.go:45"
 #[Edge.mk 11 Ground.data, Edge.mk 27 Ground.data, Edge.mk 3 Ground.guard] (some (3, true)),
 Oper.mk (some 156) (Op.pick (Operand.tmp 130) (Operand.tmp 155) (Operand.const (Value.bool false))) 4 "l01_json.go:45"
 #[Edge.mk 3 Ground.data, Edge.mk 28 Ground.data] none]
 true)
 (Code.cond (Operand.tmp 156)
 (Code.seq
 (Code.region 20
 #[Oper.mk (some 4) (Op.assign (Operand.const (Value.int IntKind.i64 (0 : Int)))) 3 "l01_json.go:46" #[] none,
 Oper.mk (some 5) (Op.assign (Operand.const (Value.bool false))) 4 "l01_json.go:46" #[Edge.mk 0 Ground.chain, Edge.mk 0 Ground.phase] none]
 false)
 Code.ret)
 Code.skip))
 (Code.seq
 (Code.region 21
 #[Oper.mk (some 158) (Op.fieldAddr 25 (Operand.tmp 2) 4) 0 "l01_json.go:48" #[] none,
 Oper.mk (some 159) (Op.load 23 (Operand.tmp 158)) 23 "l01_json.go:48" #[Edge.mk 0 Ground.data] none,
 Oper.mk (some 160) (Op.move (Operand.tmp 8)) 3 "l01_json.go:48" #[] none,
 Oper.mk (some 161) (Op.indexAddr 23 (Operand.tmp 159) (Operand.tmp 160)) 0 "l01_json.go:48"
 #[Edge.mk 1 Ground.data, Edge.mk 2 Ground.data] none,
 Oper.mk (some 162) (Op.load 25 (Operand.tmp 161)) 25 "l01_json.go:48" #[Edge.mk 3 Ground.data] none,
 Oper.mk (some 163) (Op.move (Operand.tmp 1)) 3 "l01_json.go:48" #[] none,
 Oper.mk (some 164) (Op.binOp BinOp.sub 3 (Operand.tmp 163) (Operand.const (Value.int IntKind.i64 (1 : Int))) 3) 3 "l01_json.go:48"
 #[Edge.mk 5 Ground.data] none,
 Oper.mk (some 165) (Op.call (Call.mk (Callee.value (Operand.func 40)) #[Operand.tmp 162, Operand.tmp 164] #[25, 3])) 56
 "l01_json.go:48" #[Edge.mk 4 Ground.data, Edge.mk 6 Ground.data] none,
 Oper.mk (some 157) (Op.move (Operand.tmp 165)) 56 "l01_json.go:48" #[Edge.mk 7 Ground.data] none,
 Oper.mk (some 166) (Op.extract (Operand.tmp 157) 0) 3 "l01_json.go:48" #[Edge.mk 8 Ground.data] none,
 Oper.mk (some 167) (Op.extract (Operand.tmp 157) 1) 4 "l01_json.go:48"
 #[Edge.mk 8 Ground.data, Edge.mk 11 (Ground.gcOnly Departure.lateStores)] none,
 Oper.mk (some 9) (Op.assign (Operand.tmp 166)) 3 "l01_json.go:48"
 #[Edge.mk 9 Ground.data, Edge.mk 7 Ground.chain, Edge.mk 0 Ground.phase, Edge.mk 1 Ground.phase, Edge.mk 2 Ground.phase,
 Edge.mk 3 Ground.phase, Edge.mk 4 Ground.phase, Edge.mk 5 Ground.phase, Edge.mk 6 Ground.phase, Edge.mk 7 Ground.phase,
 Edge.mk 8 Ground.phase, Edge.mk 9 Ground.phase, Edge.mk 10 (Ground.textOnly Departure.lateStores)]
 none,
 Oper.mk (some 10) (Op.assign (Operand.tmp 167)) 4 "l01_json.go:48"
 #[Edge.mk 10 Ground.data, Edge.mk 11 Ground.chain, Edge.mk 0 Ground.phase, Edge.mk 1 Ground.phase, Edge.mk 2 Ground.phase,
 Edge.mk 3 Ground.phase, Edge.mk 4 Ground.phase, Edge.mk 5 Ground.phase, Edge.mk 6 Ground.phase, Edge.mk 7 Ground.phase,
 Edge.mk 8 Ground.phase, Edge.mk 9 Ground.phase, Edge.mk 10 Ground.phase, Edge.mk 11 Ground.phase]
 none]
 false)
 (Code.seq
 (Code.region 22
 #[Oper.mk (some 168) (Op.move (Operand.tmp 7)) 3 "l01_json.go:49" #[] none,
 Oper.mk (some 169) (Op.move (Operand.tmp 9)) 3 "l01_json.go:49" #[] none,
 Oper.mk (some 170) (Op.binOp BinOp.add 3 (Operand.tmp 168) (Operand.tmp 169) 3) 3 "l01_json.go:49"
 #[Edge.mk 0 Ground.data, Edge.mk 1 Ground.data] none,
 Oper.mk (some 7) (Op.assign (Operand.tmp 170)) 3 "l01_json.go:49"
 #[Edge.mk 2 Ground.data, Edge.mk 0 Ground.phase, Edge.mk 1 Ground.phase, Edge.mk 2 Ground.phase] none]
 false)
 (Code.seq
 (Code.region 23
 #[Oper.mk (some 171) (Op.move (Operand.tmp 10)) 4 "l01_json.go:50" #[] none,
 Oper.mk (some 172) (Op.unOp UnOp.not 4 (Operand.tmp 171)) 4 "l01_json.go:50" #[Edge.mk 0 Ground.data] none,
 Oper.mk (some 173) (Op.move (Operand.tmp 172)) 4 "l01_json.go:50" #[Edge.mk 1 Ground.data] none,
 Oper.mk (some 174) (Op.move (Operand.tmp 7)) 3 "l01_json.go:50" #[Edge.mk 2 Ground.guard] (some (2, false)),
 Oper.mk (some 175) (Op.binOp BinOp.gtr 3 (Operand.tmp 174) (Operand.const (Value.int IntKind.i64 (400 : Int))) 3) 4 "l01_json.go:50"
 #[Edge.mk 3 Ground.data, Edge.mk 2 Ground.guard] (some (2, false)),
 Oper.mk (some 176) (Op.pick (Operand.tmp 173) (Operand.const (Value.bool true)) (Operand.tmp 175)) 4 "l01_json.go:50"
 #[Edge.mk 2 Ground.data, Edge.mk 4 Ground.data] none]
 false)
 (Code.cond (Operand.tmp 176)
 (Code.seq
 (Code.region 24
 #[Oper.mk (some 4) (Op.assign (Operand.const (Value.int IntKind.i64 (0 : Int)))) 3 "l01_json.go:51" #[] none,
 Oper.mk (some 5) (Op.assign (Operand.const (Value.bool false))) 4 "l01_json.go:51" #[Edge.mk 0 Ground.chain, Edge.mk 0 Ground.phase] none]
 false)
 Code.ret)
 Code.skip))))))
 (Code.region 18
 #[Oper.mk (some 125) (Op.move (Operand.tmp 8)) 3 "l01_json.go:44" #[] none,
 Oper.mk (some 126) (Op.binOp BinOp.add 3 (Operand.tmp 125) (Operand.const (Value.int IntKind.i64 (1 : Int))) 3) 3 "l01_json.go:44"
 #[Edge.mk 0 Ground.data] none,
 Oper.mk (some 8) (Op.assign (Operand.tmp 126)) 3 "l01_json.go:44" #[Edge.mk 1 Ground.data, Edge.mk 0 Ground.phase, Edge.mk 1 Ground.phase] none]
 false))))
 (St.mk (mkTm 178 [(1, V.int IntKind.i64 ((12 : Int) - d)), (2, V.ptr 0 0), (7, V.int IntKind.i64 (1 : Int)), (8, V.int IntKind.i64 (0 : Int))])
 [some
 ([V.int IntKind.i64 (5 : Int), V.int IntKind.i64 (0 : Int), V.str (J.t (J.mk (5 : Int) (0 : Int) [] ks its)),
 V.dsl (List.length (J.keys (J.mk (5 : Int) (0 : Int) [] ks its))) false (encs encStr (J.keys (J.mk (5 : Int) (0 : Int) [] ks its))),
 V.dsl (List.length (J.items (J.mk (5 : Int) (0 : Int) [] ks its))) false (encs encJ (J.items (J.mk (5 : Int) (0 : Int) [] ks its)))],
 25)]
 [])
 (Ex.exit 1) (St.mk (mkTm 178 [(7, V.int IntKind.i64 (↑(1 + jns (J.items (J.mk (5 : Int) (0 : Int) [] ks its))) : Int))]) [] [])]
 (T.done (Ret.mk (V.tup [V.int IntKind.i64 (↑(1 + jns (J.items (J.mk (5 : Int) (0 : Int) [] ks its))) : Int), V.bool true]) [] []))
 else
 bif (↑(List.length (J.keys (J.mk (5 : Int) (0 : Int) [] ks its))) : Int) != (↑(List.length (J.items (J.mk (5 : Int) (0 : Int) [] ks its))) : Int) then
 T.done (Ret.mk (V.tup [V.int IntKind.i64 (0 : Int), V.bool false]) [] [])
 else
 T.bind PUnit.unit fun _ =>
 T.need
 [St.mk (mkTm 178 [(1, V.int IntKind.i64 ((12 : Int) - d)), (2, V.ptr 0 0), (7, V.int IntKind.i64 (1 : Int)), (8, V.int IntKind.i64 (0 : Int))])
 [some
 ([V.int IntKind.i64 (5 : Int), V.int IntKind.i64 (0 : Int), V.str (J.t (J.mk (5 : Int) (0 : Int) [] ks its)),
 V.dsl (List.length (J.keys (J.mk (5 : Int) (0 : Int) [] ks its))) false (encs encStr (J.keys (J.mk (5 : Int) (0 : Int) [] ks its))),
 V.dsl (List.length (J.items (J.mk (5 : Int) (0 : Int) [] ks its))) false (encs encJ (J.items (J.mk (5 : Int) (0 : Int) [] ks its)))],
 25)]
 [] =
 St.mk (mkTm 178 [(1, V.int IntKind.i64 ((12 : Int) - d)), (2, V.ptr 0 0), (7, V.int IntKind.i64 (1 : Int)), (8, V.int IntKind.i64 (0 : Int))])
 [some
 ([V.int IntKind.i64 (5 : Int), V.int IntKind.i64 (0 : Int), V.str (J.t (J.mk (5 : Int) (0 : Int) [] ks its)),
 V.dsl (List.length (J.keys (J.mk (5 : Int) (0 : Int) [] ks its))) false (encs encStr (J.keys (J.mk (5 : Int) (0 : Int) [] ks its))),
 V.dsl (List.length (J.items (J.mk (5 : Int) (0 : Int) [] ks its))) false (encs encJ (J.items (J.mk (5 : Int) (0 : Int) [] ks its)))],
 25)]
 [],
 SoundC (Env.P (Env.mk Tryz.prog vwA resSO (lsOk (J.mk (5 : Int) (0 : Int) [] ks its) d) [] [] none (MapE.mk (fun _ _ _ => none) fun _ _ _ _ => none) fun _ _ _ _ _ => none)) 0
 (Code.loop
 (Code.seq
 (Code.seq
 (Code.region 17
 #[Oper.mk (some 120) (Op.move (Operand.tmp 8)) 3 "l01_json.go:44" #[] none,
 Oper.mk (some 121) (Op.fieldAddr 25 (Operand.tmp 2) 4) 0 "l01_json.go:44" #[] none,
 Oper.mk (some 122) (Op.load 23 (Operand.tmp 121)) 23 "l01_json.go:44" #[Edge.mk 1 Ground.data] none,
 Oper.mk (some 123) (Op.call (Call.mk (Callee.builtin Builtin.len) #[Operand.tmp 122] #[23])) 3 "l01_json.go:44" #[Edge.mk 2 Ground.data] none,
 Oper.mk (some 124) (Op.binOp BinOp.lss 3 (Operand.tmp 120) (Operand.tmp 123) 3) 4 "l01_json.go:44"
 #[Edge.mk 0 Ground.data, Edge.mk 3 Ground.data] none]
 false)
 (Code.cond (Operand.tmp 124) Code.skip (Code.exit 1)))
 (Code.seq
 (Code.block 2
 (Code.seq
 (Code.seq
 (Code.region 19
 #[Oper.mk (some 127) (Op.fieldAddr 25 (Operand.tmp 2) 0) 0 "l01_json.go:45" #[] none,
 Oper.mk (some 128) (Op.load 3 (Operand.tmp 127)) 3 "l01_json.go:45" #[Edge.mk 0 Ground.data] none,
 Oper.mk (some 129) (Op.binOp BinOp.eql 3 (Operand.tmp 128) (Operand.const (Value.int IntKind.i64 (5 : Int))) 3) 4 "l01_json.go:45"
 #[Edge.mk 1 Ground.data] none,
 Oper.mk (some 130) (Op.move (Operand.tmp 129)) 4 "l01_json.go:45" #[Edge.mk 2 Ground.data] none,
 Oper.mk (some 131) (Op.fieldAddr 25 (Operand.tmp 2) 3) 0 "l01_json.go:45" #[Edge.mk 3 Ground.guard] (some (3, true)),
 Oper.mk (some 132) (Op.load 22 (Operand.tmp 131)) 22 "l01_json.go:45" #[Edge.mk 4 Ground.data, Edge.mk 3 Ground.guard]
 (some (3, true)),
 Oper.mk (some 133) (Op.move (Operand.tmp 8)) 3 "l01_json.go:45" #[Edge.mk 3 Ground.guard] (some (3, true)),
 Oper.mk (some 134) (Op.indexAddr 22 (Operand.tmp 132) (Operand.tmp 133)) 0 "l01_json.go:45"
 #[Edge.mk 5 Ground.data, Edge.mk 6 Ground.data, Edge.mk 3 Ground.guard] (some (3, true)),
 Oper.mk (some 135) (Op.load 9 (Operand.tmp 134)) 9 "l01_json.go:45" #[Edge.mk 7 Ground.data, Edge.mk 3 Ground.guard] (some (3, true)),
 Oper.mk (some 136) (Op.call (Call.mk (Callee.value (Operand.func 62)) #[Operand.tmp 135] #[9])) 4 "l01_json.go:45"
 #[Edge.mk 8 Ground.data, Edge.mk 3 Ground.chain, Edge.mk 3 Ground.guard] (some (3, true)),
 Oper.mk (some 137) (Op.unOp UnOp.not 4 (Operand.tmp 136)) 4 "l01_json.go:45" #[Edge.mk 9 Ground.data, Edge.mk 3 Ground.guard]
 (some (3, true)),
 Oper.mk (some 138) (Op.move (Operand.tmp 137)) 4 "l01_json.go:45" #[Edge.mk 10 Ground.data, Edge.mk 9 Ground.chain, Edge.mk 3 Ground.guard]
 (some (3, true)),
 Oper.mk (some 139) (Op.move (Operand.tmp 8)) 3 "l01_json.go:45" #[Edge.mk 11 Ground.guard] (some (11, false)),
 Oper.mk (some 140) (Op.binOp BinOp.gtr 3 (Operand.tmp 139) (Operand.const (Value.int IntKind.i64 (0 : Int))) 3) 4 "l01_json.go:45"
 #[Edge.mk 12 Ground.data, Edge.mk 11 Ground.guard] (some (11, false)),
 Oper.mk (some 141) (Op.move (Operand.tmp 140)) 4 "l01_json.go:45" #[Edge.mk 13 Ground.data, Edge.mk 11 Ground.chain, Edge.mk 11 Ground.guard]
 (some (11, false)),
 Oper.mk (some 142) (Op.fieldAddr 25 (Operand.tmp 2) 3) 0 "l01_json.go:45" #[Edge.mk 14 Ground.guard] (some (14, true)),
 Oper.mk (some 143) (Op.load 22 (Operand.tmp 142)) 22 "l01_json.go:45" #[Edge.mk 15 Ground.data, Edge.mk 14 Ground.guard]
 (some (14, true)),
 Oper.mk (some 144) (Op.move (Operand.tmp 8)) 3 "l01_json.go:45" #[Edge.mk 14 Ground.guard] (some (14, true)),
 Oper.mk (some 145) (Op.binOp BinOp.sub 3 (Operand.tmp 144) (Operand.const (Value.int IntKind.i64 (1 : Int))) 3) 3 "l01_json.go:45"
 #[Edge.mk 17 Ground.data, Edge.mk 14 Ground.guard] (some (14, true)),
 Oper.mk (some 146) (Op.indexAddr 22 (Operand.tmp 143) (Operand.tmp 145)) 0 "l01_json.go:45"
 #[Edge.mk 16 Ground.data, Edge.mk 18 Ground.data, Edge.mk 14 Ground.guard] (some (14, true)),
 Oper.mk (some 147) (Op.load 9 (Operand.tmp 146)) 9 "l01_json.go:45" #[Edge.mk 19 Ground.data, Edge.mk 14 Ground.guard]
 (some (14, true)),
 Oper.mk (some 148) (Op.fieldAddr 25 (Operand.tmp 2) 3) 0 "l01_json.go:45" #[Edge.mk 14 Ground.guard] (some (14, true)),
 Oper.mk (some 149) (Op.load 22 (Operand.tmp 148)) 22 "l01_json.go:45" #[Edge.mk 21 Ground.data, Edge.mk 14 Ground.guard]
 (some (14, true)),
 Oper.mk (some 150) (Op.move (Operand.tmp 8)) 3 "l01_json.go:45" #[Edge.mk 14 Ground.guard] (some (14, true)),
 Oper.mk (some 151) (Op.indexAddr 22 (Operand.tmp 149) (Operand.tmp 150)) 0 "l01_json.go:45"
 #[Edge.mk 22 Ground.data, Edge.mk 23 Ground.data, Edge.mk 14 Ground.guard] (some (14, true)),
 Oper.mk (some 152) (Op.load 9 (Operand.tmp 151)) 9 "l01_json.go:45" #[Edge.mk 24 Ground.data, Edge.mk 14 Ground.guard]
 (some (14, true)),
 Oper.mk (some 153) (Op.binOp BinOp.geq 9 (Operand.tmp 147) (Operand.tmp 152) 9) 4 "l01_json.go:45"
 #[Edge.mk 20 Ground.data, Edge.mk 25 Ground.data, Edge.mk 14 Ground.guard] (some (14, true)),
 Oper.mk (some 154) (Op.pick (Operand.tmp 141) (Operand.tmp 153) (Operand.const (Value.bool false))) 4 "l01_json.go:45"
 #[Edge.mk 14 Ground.data, Edge.mk 26 Ground.data, Edge.mk 11 Ground.guard] (some (11, false)),
 Oper.mk (some 155) (Op.pick (Operand.tmp 138) (Operand.const (Value.bool true)) (Operand.tmp 154)) 4 "l01_json.go:45"
 #[Edge.mk 11 Ground.data, Edge.mk 27 Ground.data, Edge.mk 3 Ground.guard] (some (3, true)),
 Oper.mk (some 156) (Op.pick (Operand.tmp 130) (Operand.tmp 155) (Operand.const (Value.bool false))) 4 "l01_json.go:45"
 #[Edge.mk 3 Ground.data, Edge.mk 28 Ground.data] none]
 true)
 (Code.cond (Operand.tmp 156)
 (Code.seq
 (Code.region 20
 #[Oper.mk (some 4) (Op.assign (Operand.const (Value.int IntKind.i64 (0 : Int)))) 3 "l01_json.go:46" #[] none,
 Oper.mk (some 5) (Op.assign (Operand.const (Value.bool false))) 4 "l01_json.go:46" #[Edge.mk 0 Ground.chain, Edge.mk 0 Ground.phase] none]
 false)
 Code.ret)
 Code.skip))
 (Code.seq
 (Code.region 21
 #[Oper.mk (some 158) (Op.fieldAddr 25 (Operand.tmp 2) 4) 0 "l01_json.go:48" #[] none,
 Oper.mk (some 159) (Op.load 23 (Operand.tmp 158)) 23 "l01_json.go:48" #[Edge.mk 0 Ground.data] none,
 Oper.mk (some 160) (Op.move (Operand.tmp 8)) 3 "l01_json.go:48" #[] none,
 Oper.mk (some 161) (Op.indexAddr 23 (Operand.tmp 159) (Operand.tmp 160)) 0 "l01_json.go:48"
 #[Edge.mk 1 Ground.data, Edge.mk 2 Ground.data] none,
 Oper.mk (some 162) (Op.load 25 (Operand.tmp 161)) 25 "l01_json.go:48" #[Edge.mk 3 Ground.data] none,
 Oper.mk (some 163) (Op.move (Operand.tmp 1)) 3 "l01_json.go:48" #[] none,
 Oper.mk (some 164) (Op.binOp BinOp.sub 3 (Operand.tmp 163) (Operand.const (Value.int IntKind.i64 (1 : Int))) 3) 3 "l01_json.go:48"
 #[Edge.mk 5 Ground.data] none,
 Oper.mk (some 165) (Op.call (Call.mk (Callee.value (Operand.func 40)) #[Operand.tmp 162, Operand.tmp 164] #[25, 3])) 56
 "l01_json.go:48" #[Edge.mk 4 Ground.data, Edge.mk 6 Ground.data] none,
 Oper.mk (some 157) (Op.move (Operand.tmp 165)) 56 "l01_json.go:48" #[Edge.mk 7 Ground.data] none,
 Oper.mk (some 166) (Op.extract (Operand.tmp 157) 0) 3 "l01_json.go:48" #[Edge.mk 8 Ground.data] none,
 Oper.mk (some 167) (Op.extract (Operand.tmp 157) 1) 4 "l01_json.go:48"
 #[Edge.mk 8 Ground.data, Edge.mk 11 (Ground.gcOnly Departure.lateStores)] none,
 Oper.mk (some 9) (Op.assign (Operand.tmp 166)) 3 "l01_json.go:48"
 #[Edge.mk 9 Ground.data, Edge.mk 7 Ground.chain, Edge.mk 0 Ground.phase, Edge.mk 1 Ground.phase, Edge.mk 2 Ground.phase,
 Edge.mk 3 Ground.phase, Edge.mk 4 Ground.phase, Edge.mk 5 Ground.phase, Edge.mk 6 Ground.phase, Edge.mk 7 Ground.phase,
 Edge.mk 8 Ground.phase, Edge.mk 9 Ground.phase, Edge.mk 10 (Ground.textOnly Departure.lateStores)]
 none,
 Oper.mk (some 10) (Op.assign (Operand.tmp 167)) 4 "l01_json.go:48"
 #[Edge.mk 10 Ground.data, Edge.mk 11 Ground.chain, Edge.mk 0 Ground.phase, Edge.mk 1 Ground.phase, Edge.mk 2 Ground.phase,
 Edge.mk 3 Ground.phase, Edge.mk 4 Ground.phase, Edge.mk 5 Ground.phase, Edge.mk 6 Ground.phase, Edge.mk 7 Ground.phase,
 Edge.mk 8 Ground.phase, Edge.mk 9 Ground.phase, Edge.mk 10 Ground.phase, Edge.mk 11 Ground.phase]
 none]
 false)
 (Code.seq
 (Code.region 22
 #[Oper.mk (some 168) (Op.move (Operand.tmp 7)) 3 "l01_json.go:49" #[] none,
 Oper.mk (some 169) (Op.move (Operand.tmp 9)) 3 "l01_json.go:49" #[] none,
 Oper.mk (some 170) (Op.binOp BinOp.add 3 (Operand.tmp 168) (Operand.tmp 169) 3) 3 "l01_json.go:49"
 #[Edge.mk 0 Ground.data, Edge.mk 1 Ground.data] none,
 Oper.mk (some 7) (Op.assign (Operand.tmp 170)) 3 "l01_json.go:49"
 #[Edge.mk 2 Ground.data, Edge.mk 0 Ground.phase, Edge.mk 1 Ground.phase, Edge.mk 2 Ground.phase] none]
 false)
 (Code.seq
 (Code.region 23
 #[Oper.mk (some 171) (Op.move (Operand.tmp 10)) 4 "l01_json.go:50" #[] none,
 Oper.mk (some 172) (Op.unOp UnOp.not 4 (Operand.tmp 171)) 4 "l01_json.go:50" #[Edge.mk 0 Ground.data] none,
 Oper.mk (some 173) (Op.move (Operand.tmp 172)) 4 "l01_json.go:50" #[Edge.mk 1 Ground.data] none,
 Oper.mk (some 174) (Op.move (Operand.tmp 7)) 3 "l01_json.go:50" #[Edge.mk 2 Ground.guard] (some (2, false)),
 Oper.mk (some 175) (Op.binOp BinOp.gtr 3 (Operand.tmp 174) (Operand.const (Value.int IntKind.i64 (400 : Int))) 3) 4 "l01_json.go:50"
 #[Edge.mk 3 Ground.data, Edge.mk 2 Ground.guard] (some (2, false)),
 Oper.mk (some 176) (Op.pick (Operand.tmp 173) (Operand.const (Value.bool true)) (Operand.tmp 175)) 4 "l01_json.go:50"
 #[Edge.mk 2 Ground.data, Edge.mk 4 Ground.data] none]
 false)
 (Code.cond (Operand.tmp 176)
 (Code.seq
 (Code.region 24
 #[Oper.mk (some 4) (Op.assign (Operand.const (Value.int IntKind.i64 (0 : Int)))) 3 "l01_json.go:51" #[] none,
 Oper.mk (some 5) (Op.assign (Operand.const (Value.bool false))) 4 "l01_json.go:51" #[Edge.mk 0 Ground.chain, Edge.mk 0 Ground.phase] none]
 false)
 Code.ret)
 Code.skip))))))
 (Code.region 18
 #[Oper.mk (some 125) (Op.move (Operand.tmp 8)) 3 "l01_json.go:44" #[] none,
 Oper.mk (some 126) (Op.binOp BinOp.add 3 (Operand.tmp 125) (Operand.const (Value.int IntKind.i64 (1 : Int))) 3) 3 "l01_json.go:44"
 #[Edge.mk 0 Ground.data] none,
 Oper.mk (some 8) (Op.assign (Operand.tmp 126)) 3 "l01_json.go:44" #[Edge.mk 1 Ground.data, Edge.mk 0 Ground.phase, Edge.mk 1 Ground.phase] none]
 false))))
 (St.mk (mkTm 178 [(1, V.int IntKind.i64 ((12 : Int) - d)), (2, V.ptr 0 0), (7, V.int IntKind.i64 (1 : Int)), (8, V.int IntKind.i64 (0 : Int))])
 [some
 ([V.int IntKind.i64 (5 : Int), V.int IntKind.i64 (0 : Int), V.str (J.t (J.mk (5 : Int) (0 : Int) [] ks its)),
 V.dsl (List.length (J.keys (J.mk (5 : Int) (0 : Int) [] ks its))) false (encs encStr (J.keys (J.mk (5 : Int) (0 : Int) [] ks its))),
 V.dsl (List.length (J.items (J.mk (5 : Int) (0 : Int) [] ks its))) false (encs encJ (J.items (J.mk (5 : Int) (0 : Int) [] ks its)))],
 25)]
 [])
 (Ex.exit 1) (St.mk (mkTm 178 [(7, V.int IntKind.i64 (↑(1 + jns (J.items (J.mk (5 : Int) (0 : Int) [] ks its))) : Int))]) [] [])]
 (T.done (Ret.mk (V.tup [V.int IntKind.i64 (↑(1 + jns (J.items (J.mk (5 : Int) (0 : Int) [] ks its))) : Int), V.bool true]) [] [])) := by kernel_rfl
theorem jn_leaf (k n : Int) (t : List UInt8) (ks : List (List UInt8)) : jn (.mk k n t ks []) = 1 := by rw [jn, jns]
theorem sOk_ok : ∀ (m : Nat) (j : J) (d : Int), jn j ≤ m → m ≤ 400 → 0 ≤ d → RD j d → FnOK Tryz.prog fSOK [.agg (vwJ j), .int .i64 (12 - d)] [] ⟨.tup [.int .i64 (jn j : Nat), .bool true], [], []⟩
  | 0, j, d, hm, _, _, _ => by rw [jn_eq] at hm; omega
  | m + 1, j, d, hm, hm2, hd, hr => by
    obtain ⟨hp, hlt⟩ := hr.part
    obtain ⟨hz, hh⟩ := part_head hp
    have hit := hr.item
    have hn := jn_eq j
    have hl := jns_length j.items
    have hw : ¬ (12 - d = 0) := by omega
    cases hh with
    | null =>
      rcases hz with hz | hz
      · rw [hz]
        refine fnOK_TL (E := ESO) follows named (sOkT0 d) (by simp) ?_
        simp only [WP_cond, T.WP, beq_iff_eq, beq_eq_false_iff_ne, ne_eq]
        exact ⟨fun h => absurd h hw, fun _ => ⟨rfl, rfl, by simp⟩⟩
      · exact absurd rfl hz
    | ff =>
      refine fnOK_TL (E := ESO) follows named (sOkT1 0 d) (by simp) ?_
      simp only [WP_cond, T.WP, All, and_true, beq_iff_eq, beq_eq_false_iff_ne, ne_eq]
      refine ⟨fun h => absurd h hw, fun _ => ?_⟩
      rintro y rfl
      exact ⟨sIn_ok _ _ _, fun _ => ⟨rfl, rfl, by simp⟩, fun h => by cases h⟩
    | tt =>
      refine fnOK_TL (E := ESO) follows named (sOkT1 1 d) (by simp) ?_
      simp only [WP_cond, T.WP, All, and_true, beq_iff_eq, beq_eq_false_iff_ne, ne_eq]
      refine ⟨fun h => absurd h hw, fun _ => ?_⟩
      rintro y rfl
      exact ⟨sIn_ok _ _ _, fun _ => ⟨rfl, rfl, by simp⟩, fun h => by cases h⟩
    | @num n hb =>
      refine fnOK_TL (E := ESO) follows named (sOkT2 n d) (by simp) ?_
      have hI : inB n (-1000000000) 1000000000 = true := by unfold inB; simp; omega
      simp only [WP_cond, T.WP, All, and_true, beq_iff_eq, beq_eq_false_iff_ne, ne_eq]
      refine ⟨fun h => absurd h hw, fun _ => ?_⟩
      rintro y rfl
      exact ⟨sIn_ok _ _ _, fun _ => ⟨rfl, rfl, by simp⟩, fun h => by change inB n _ _ = false at h; rw [hI] at h; cases h⟩
    | @txt t ht =>
      refine fnOK_TL (E := ESO) follows named (sOkT3 t d) (by simp) ?_
      simp only [WP_cond, T.WP, All, and_true, beq_iff_eq, beq_eq_false_iff_ne, ne_eq]
      refine ⟨fun h => absurd h hw, fun _ => ?_⟩
      rintro y rfl
      rw [show plainT (J.mk 3 0 t [] []).t = true from ht]
      exact ⟨sText_ok _ ht, ⟨rfl, rfl, by simp⟩⟩
    | @lst its =>
      refine fnOK_TL (E := { P := Tryz.prog, vw := vwA, res := resSO, ls := lsOk (J.mk 4 0 [] [] its) d }) follows named (sOkT4 its d) (by simp) ?_
      simp only [WP_cond, T.WP, All, and_true, beq_iff_eq, beq_eq_false_iff_ne, ne_eq]
      have h := sOk_loop (.mk 4 0 [] [] its) d ⟨hd, hlt⟩ (fun x hx => sOk_ok m x (d + 1) (by have := jns_mem x hx; omega) (by omega) (by omega) (hit x hx)) (fun h => by cases h) its.length 1 0 (by simp [J.items]) (by simp [J.items] at *; omega) (by simp [J.items] at *; omega)
      rw [List.drop_zero] at h
      refine ⟨fun h => absurd h hw, fun _ => ?_⟩
      rintro y -
      refine ⟨⟨trivial, .loopTo h⟩, ?_⟩
      rw [hn]; exact ⟨rfl, rfl, by simp⟩
    | @obj ks its hl5 hk5 =>
      refine fnOK_TL (E := { P := Tryz.prog, vw := vwA, res := resSO, ls := lsOk (J.mk 5 0 [] ks its) d }) follows named (sOkT5 ks its d) (by simp) ?_
      simp only [WP_cond, T.WP, All, and_true, beq_iff_eq, beq_eq_false_iff_ne, ne_eq]
      have h := sOk_loop (.mk 5 0 [] ks its) d ⟨hd, hlt⟩ (fun x hx => sOk_ok m x (d + 1) (by have := jns_mem x hx; omega) (by omega) (by omega) (hit x hx)) (fun _ => ⟨hl5, hk5⟩) its.length 1 0 (by simp [J.items]) (by simp [J.items] at *; omega) (by simp [J.items] at *; omega)
      rw [List.drop_zero] at h
      have e5 : ((ks.length : Nat) : Int) = ((its.length : Nat) : Int) := by omega
      simp only [bne_iff_ne, bne_eq_false_iff_eq, ne_eq]
      refine ⟨fun h => absurd h hw, fun _ => ⟨fun _ => ⟨fun h => absurd e5 h, fun _ => ?_⟩, fun _ => ⟨fun h => absurd e5 h, fun _ => ?_⟩⟩⟩
      · rintro y -
        refine ⟨⟨trivial, .loopTo h⟩, ?_⟩
        rw [hn]; exact ⟨rfl, rfl, by simp⟩
      · rintro y -
        refine ⟨⟨trivial, .loopTo h⟩, ?_⟩
        rw [hn]; exact ⟨rfl, rfl, by simp⟩
noncomputable def resPubl (_ : J → List UInt8) (_ : J → Bool) : ResT := fun f vs hp => match vs, hp with
  | [.agg [.int _ k, .int _ n, .str t, .dsl _ _ ks, .dsl _ _ its], .int _ _], [] => bif Nat.beq f fSOK then some ⟨jn (jOf k n t ks its), fun y => ⟨.tup [.int .i64 (y : Nat), .bool true], [], []⟩⟩ else none
  | [.agg [.int _ k, .int _ n, .str t, .dsl _ _ ks, .dsl _ _ its]], [] => bif Nat.beq f fSJOK then some ⟨(), fun _ => ⟨.bool true, [], []⟩⟩
    else bif Nat.beq f fIJsonOK then some ⟨(), fun _ => ⟨.bool true, [], []⟩⟩
    else bif Nat.beq f fPrint then some ⟨pj (jOf k n t ks its), fun y => ⟨.str y, [], []⟩⟩
    else bif Nat.beq f fSDepth then some ⟨jdep (jOf k n t ks its), fun y => ⟨.int .i64 (y : Nat), [], []⟩⟩
    else bif Nat.beq f fDepth then some ⟨jdep (jOf k n t ks its), fun y => ⟨.int .i64 (y : Nat), [], []⟩⟩
    else bif Nat.beq f fNodes then some ⟨jn (jOf k n t ks its), fun y => ⟨.int .i64 (y : Nat), [], []⟩⟩ else none
  | _, _ => none
noncomputable def EPub : Env := { P := Tryz.prog, vw := vwA, res := resPubl pj okJ }
set_option maxRecDepth 100000 in
theorem sjokT (j : J) : fnT EPub 0 fSJOK [.agg (vwJ j)] [] =
 T.bind (jn (jOf (J.kind j) (J.n j) (J.t j) (encs encStr (J.keys j)) (encs encJ (J.items j)))) fun y0 =>
 T.need [FnOK (Env.P EPub) 40 [V.agg (vwJ j), V.int IntKind.i64 (12 : Int)] [] (Ret.mk (V.tup [V.int IntKind.i64 (↑y0 : Int), V.bool true]) [] [])] (T.done (Ret.mk (V.bool true) [] [])) := (T.force_eq _).symm.trans (by kernel_rfl)
set_option maxRecDepth 100000 in
theorem spjT (j : J) : fnT EPub 0 fSPrintJ [.agg (vwJ j)] [] =
 T.bind PUnit.unit fun _ =>
 T.need [FnOK (Env.P EPub) 35 [V.agg (vwJ j)] [] (Ret.mk (V.bool true) [] [])]
 (T.bind (pj (jOf (J.kind j) (J.n j) (J.t j) (encs encStr (J.keys j)) (encs encJ (J.items j)))) fun y1 =>
 T.need [FnOK (Env.P EPub) 36 [V.agg (vwJ j)] [] (Ret.mk (V.str y1) [] [])] (T.done (Ret.mk (V.tup [V.str y1, V.int IntKind.i64 (0 : Int)]) [] []))) := (T.force_eq _).symm.trans (by kernel_rfl)
set_option maxRecDepth 100000 in
theorem snodT (j : J) : fnT EPub 0 fSNodes [.agg (vwJ j)] [] =
 T.bind (jn (jOf (J.kind j) (J.n j) (J.t j) (encs encStr (J.keys j)) (encs encJ (J.items j)))) fun y0 =>
 T.need [FnOK (Env.P EPub) 40 [V.agg (vwJ j), V.int IntKind.i64 (12 : Int)] [] (Ret.mk (V.tup [V.int IntKind.i64 (↑y0 : Int), V.bool true]) [] [])]
 (T.done (Ret.mk (V.tup [V.int IntKind.i64 (↑y0 : Int), V.int IntKind.i64 (0 : Int)]) [] [])) := (T.force_eq _).symm.trans (by kernel_rfl)
set_option maxRecDepth 100000 in
theorem sdepT (j : J) : fnT EPub 0 fSDepJ [.agg (vwJ j)] [] =
 T.bind PUnit.unit fun _ =>
 T.need [FnOK (Env.P EPub) 35 [V.agg (vwJ j)] [] (Ret.mk (V.bool true) [] [])]
 (T.bind (jdep (jOf (J.kind j) (J.n j) (J.t j) (encs encStr (J.keys j)) (encs encJ (J.items j)))) fun y1 =>
 T.need [FnOK (Env.P EPub) 42 [V.agg (vwJ j)] [] (Ret.mk (V.int IntKind.i64 (↑y1 : Int)) [] [])] (T.done (Ret.mk (V.tup [V.int IntKind.i64 (↑y1 : Int), V.int IntKind.i64 (0 : Int)]) [] []))) := (T.force_eq _).symm.trans (by kernel_rfl)
set_option maxRecDepth 100000 in
theorem inodT (j : J) : fnT EPub 0 fINodesJ [.agg (vwJ j)] [] =
 T.bind PUnit.unit fun _ =>
 T.need [FnOK (Env.P EPub) 15 [V.agg (vwJ j)] [] (Ret.mk (V.bool true) [] [])]
 (T.bind (jn (jOf (J.kind j) (J.n j) (J.t j) (encs encStr (J.keys j)) (encs encJ (J.items j)))) fun y1 =>
 T.need [FnOK (Env.P EPub) 39 [V.agg (vwJ j)] [] (Ret.mk (V.int IntKind.i64 (↑y1 : Int)) [] [])] (T.done (Ret.mk (V.tup [V.int IntKind.i64 (↑y1 : Int), V.int IntKind.i64 (0 : Int)]) [] []))) := (T.force_eq _).symm.trans (by kernel_rfl)
set_option maxRecDepth 100000 in
theorem idepT (j : J) : fnT EPub 0 fIDepJ [.agg (vwJ j)] [] =
 T.bind PUnit.unit fun _ =>
 T.need [FnOK (Env.P EPub) 15 [V.agg (vwJ j)] [] (Ret.mk (V.bool true) [] [])]
 (T.bind (jdep (jOf (J.kind j) (J.n j) (J.t j) (encs encStr (J.keys j)) (encs encJ (J.items j)))) fun y1 =>
 T.need [FnOK (Env.P EPub) 41 [V.agg (vwJ j)] [] (Ret.mk (V.int IntKind.i64 (↑y1 : Int)) [] [])] (T.done (Ret.mk (V.tup [V.int IntKind.i64 (↑y1 : Int), V.int IntKind.i64 (0 : Int)]) [] []))) := (T.force_eq _).symm.trans (by kernel_rfl)
end Go.Proofs.YtfncaghjfgnnhaaGreatDoor

namespace Go.Proofs.YtfncaghjfgnnhaaGreatDoor
open Go.RowKit
set_option maxRecDepth 100000

abbrev fAt : Nat := 16
abbrev fSame : Nat := 37
set_option maxRecDepth 100000 in
theorem atT (l : List UInt8) (i n : Int) : fnT E0 0 fAt [sls encByte l, .int .i64 i, .int .i64 n] [] =
 bif decide (n ≤ (1 : Int)) then T.done (Ret.mk (V.int IntKind.i64 (0 : Int)) [] [])
 else
 bif (↑(List.length l) : Int) == (0 : Int) then T.need [n ≠ (0 : Int)] (T.done (Ret.mk (V.int IntKind.i64 (Int.tmod (IntKind.wrap IntKind.i64 (i * (7 : Int))) n)) [] []))
 else
 T.need [(↑(List.length l) : Int) ≠ (0 : Int)]
 (T.need
 [(0 : Int) ≤ Int.tmod i (↑(List.length l) : Int) ∧ Int.tmod i (↑(List.length l) : Int) < (↑(List.length l) : Int),
 List.take 1 (List.drop (Int.toNat (Int.tmod i (↑(List.length l) : Int)) * 1) (encs encByte l)) =
 [V.int IntKind.u8 (↑(UInt8.toNat (List.getD (decL encByte (encs encByte l)) (Int.toNat (Int.tmod i (↑(List.length l) : Int))) (0 : UInt8))) : Int)]]
 (T.need [(↑(List.length l) : Int) ≠ (0 : Int)]
 (T.need
 [(0 : Int) ≤ Int.tmod (IntKind.wrap IntKind.i64 (i + (1 : Int))) (↑(List.length l) : Int) ∧ Int.tmod (IntKind.wrap IntKind.i64 (i + (1 : Int))) (↑(List.length l) : Int) < (↑(List.length l) : Int),
 List.take 1 (List.drop (Int.toNat (Int.tmod (IntKind.wrap IntKind.i64 (i + (1 : Int))) (↑(List.length l) : Int)) * 1) (encs encByte l)) =
 [V.int IntKind.u8 (↑(UInt8.toNat (List.getD (decL encByte (encs encByte l)) (Int.toNat (Int.tmod (IntKind.wrap IntKind.i64 (i + (1 : Int))) (↑(List.length l) : Int))) (0 : UInt8))) : Int)]]
 (T.need [(↑(List.length l) : Int) ≠ (0 : Int)]
 (T.need [n ≠ (0 : Int)]
 (T.done
 (Ret.mk
 (V.int IntKind.i64
 (Int.tmod
 (IntKind.wrap IntKind.i64
 (IntKind.wrap IntKind.i64
 (IntKind.wrap IntKind.i64
 (IntKind.wrap IntKind.i64 (↑(UInt8.toNat (List.getD (decL encByte (encs encByte l)) (Int.toNat (Int.tmod i (↑(List.length l) : Int))) (0 : UInt8))) : Int) * (31 : Int)) +
 IntKind.wrap IntKind.i64
 (↑(UInt8.toNat (List.getD (decL encByte (encs encByte l)) (Int.toNat (Int.tmod (IntKind.wrap IntKind.i64 (i + (1 : Int))) (↑(List.length l) : Int))) (0 : UInt8))) : Int)) +
 IntKind.wrap IntKind.i64 (Int.tdiv i (↑(List.length l) : Int))))
 n))
 [] []))))))) := by kernel_rfl
noncomputable def stS2 (A B : List (List UInt8)) (i : Int) : St := ⟨mkTm 26 [(0, sls encStr A), (1, sls encStr B), (4, .bool false), (5, .int .i64 i)], [], []⟩
def nfS2 : Ex → Kp := fun ex => match ex with
  | .ret => { keep := [4] }
  | _ => { keep := [0, 1, 4, 5] }
set_option maxRecDepth 100000 in
theorem same1T (A B : List (List UInt8)) (i : Int) : bodyT E0 0 nfS2 (lp Tryz.prog fSame 0) (stS2 A B i) =
 bif decide (i < (↑(List.length A) : Int)) then
 T.need [(0 : Int) ≤ i ∧ i < (↑(List.length A) : Int), List.take 1 (List.drop (Int.toNat i * 1) (encs encStr A)) = [V.str (List.getD (decL encStr (encs encStr A)) (Int.toNat i) [])]]
 (T.need [(0 : Int) ≤ i ∧ i < (↑(List.length B) : Int), List.take 1 (List.drop (Int.toNat i * 1) (encs encStr B)) = [V.str (List.getD (decL encStr (encs encStr B)) (Int.toNat i) [])]]
 (bif !List.getD (decL encStr (encs encStr A)) (Int.toNat i) [] == List.getD (decL encStr (encs encStr B)) (Int.toNat i) [] then T.done (Ex.ret, St.mk (mkTm 26 [(4, V.bool false)]) [] [])
 else
 T.done
 (Ex.normal,
 St.mk
 (mkTm 26
 [(0, V.dsl (List.length A) false (encs encStr A)), (1, V.dsl (List.length B) false (encs encStr B)), (4, V.bool false),
 (5, V.int IntKind.i64 (IntKind.wrap IntKind.i64 (i + (1 : Int))))])
 [] [])))
 else
 T.done
 (Ex.exit 0,
 St.mk (mkTm 26 [(0, V.dsl (List.length A) false (encs encStr A)), (1, V.dsl (List.length B) false (encs encStr B)), (4, V.bool false), (5, V.int IntKind.i64 i)]) [] []) := by kernel_rfl

def atN (l : List UInt8) (i : Nat) : Nat := if l.length = 0 then i * 7 else (l.getD (i % l.length) 0).toNat * 31 + (l.getD ((i + 1) % l.length) 0).toNat + i / l.length
def atF (l : List UInt8) (i : Nat) (n : Int) : Int := if n ≤ 1 then 0 else ((atN l i % n.toNat : Nat) : Int)
theorem atF_bd (l : List UInt8) (i : Nat) {n : Int} (h : 1 ≤ n) : 0 ≤ atF l i n ∧ atF l i n < n := by
  unfold atF
  split
  · omega
  · have := Nat.mod_lt (atN l i) (show 0 < n.toNat by omega)
    omega
theorem atN_bd (l : List UInt8) (i : Nat) (hi : i ≤ 1000) : atN l i ≤ 100000 := by
  unfold atN
  split
  · omega
  · have h1 := (l.getD (i % l.length) 0).toNat_lt
    have h2 := (l.getD ((i + 1) % l.length) 0).toNat_lt
    have h3 := Nat.div_le_self i l.length
    omega
theorem tmodN (a : Nat) {n : Int} (h : 1 ≤ n) : (a : Int).tmod n = ((a % n.toNat : Nat) : Int) := by
  have : n = ((n.toNat : Nat) : Int) := by omega
  rw [this, Int.ofNat_tmod]; simp
theorem at_ok (l : List UInt8) (i : Nat) (hi : i ≤ 1000) (n : Int) (hn : 1 ≤ n) : FnOK Tryz.prog fAt [sls encByte l, .int .i64 i, .int .i64 n] [] ⟨.int .i64 (atF l i n), [], []⟩ := by
  refine fnOK_TL (E := E0) follows named (atT l i n) (by simp) ?_
  have hb := atN_bd l i hi
  simp only [WP_cond, T.WP, All, decide_eq_true_eq, decide_eq_false_iff_not, and_true, beq_iff_eq, beq_eq_false_iff_ne, ne_eq, layByte.decL]
  refine ⟨fun h => ⟨?_, rfl, by simp⟩, fun h => ⟨fun h0 => ⟨by omega, ?_, rfl, by simp⟩, fun h0 => ?_⟩⟩
  · show V.int _ _ = V.int _ _
    rw [atF, if_pos h]
  · show V.int _ _ = V.int _ _
    have h0' : l.length = 0 := by omega
    rw [atF, if_neg h, atN, if_pos h0', wrap_id (by omega), show (i : Int) * 7 = ((i * 7 : Nat) : Int) by omega, tmodN _ hn]
  · have h0' : ¬ l.length = 0 := by omega
    have m1 := Nat.mod_lt i (show 0 < l.length by omega)
    have m2 := Nat.mod_lt (i + 1) (show 0 < l.length by omega)
    have a1 := layByte.at l 0 (i % l.length) 1 m1 rfl
    have a2 := layByte.at l 0 ((i + 1) % l.length) 1 m2 rfl
    have c1 := (l.getD (i % l.length) 0).toNat_lt
    have c2 := (l.getD ((i + 1) % l.length) 0).toNat_lt
    have c3 := Nat.div_le_self i l.length
    rw [wrap_id (show -9223372036854775808 ≤ (i : Int) + 1 ∧ (i : Int) + 1 ≤ 9223372036854775807 by omega), show (i : Int) + 1 = ((i + 1 : Nat) : Int) by omega, ← Int.ofNat_tmod, ← Int.ofNat_tmod, ← Int.ofNat_tdiv]
    simp only [Int.toNat_natCast]
    refine ⟨h0, ⟨by omega, a1⟩, h0, ⟨by omega, a2⟩, h0, by omega, ?_, rfl, by simp⟩
    show V.int _ _ = V.int _ _
    rw [atF, if_neg h, atN, if_neg h0']
    generalize (l.getD (i % l.length) 0).toNat = u at *
    generalize (l.getD ((i + 1) % l.length) 0).toNat = v at *
    generalize i / l.length = w at *
    rw [wrap_id (n := (u : Int)) (by omega), wrap_id (n := (v : Int)) (by omega), wrap_id (n := (w : Int)) (by omega), wrap_id (n := (u : Int) * 31) (by omega), wrap_id (n := (u : Int) * 31 + v) (by omega), wrap_id (n := (u : Int) * 31 + v + w) (by omega), ← tmodN _ hn]
    congr 1

theorem same_end (A : List (List UInt8)) (i : Nat) (h : A.length ≤ i) : LoopTo Tryz.prog 0 (lp Tryz.prog fSame 0) (stS2 A A i) (.exit 0) (stS2 A A i) := by
  refine loopT (E := E0) follows named (same1T A A i) ?_
  simp only [WP_cond, T.WP, All, decide_eq_true_eq, decide_eq_false_iff_not, and_true]
  exact ⟨fun h => by omega, fun _ => ⟨rfl, rfl⟩⟩
theorem same_loop (A : List (List UInt8)) (hl : A.length ≤ 4294967296) : ∀ (m i : Nat), i + m = A.length → LoopTo Tryz.prog 0 (lp Tryz.prog fSame 0) (stS2 A A i) (.exit 0) (stS2 A A A.length)
  | 0, i, h => by
    obtain rfl : i = A.length := h
    exact same_end A _ (Nat.le_refl _)
  | m + 1, i, h => by
    refine loopT (E := E0) follows named (same1T A A i) ?_
    have hat := layStr.at A [] i 1 (by omega) rfl
    simp only [WP_cond, T.WP, All, decide_eq_true_eq, decide_eq_false_iff_not, and_true, Int.toNat_natCast, layStr.decL, wrap_succ (show i < 9223372036854775807 by omega)]
    refine ⟨fun _ => ⟨⟨by omega, hat⟩, ⟨by omega, hat⟩, fun h => ?_, fun _ => ?_⟩, fun h => by omega⟩
    · simp at h
    · exact same_loop A hl m (i + 1) (by omega)

noncomputable def lsSame : Nat → St → Option LRes := fun id s => match id, s.tm.get 0, s.tm.get 1 with
  | 0, .dsl _ _ cs, .dsl _ _ ds => some ⟨(), fun _ => .one { keep := [0, 1, 4, 5] } (stS2 (decL encStr cs) (decL encStr ds) 0) (.exit 0) (stS2 (decL encStr cs) (decL encStr ds) (decL encStr cs).length)⟩
  | _, _, _ => none
set_option maxRecDepth 100000 in
theorem sameT (A B : List (List UInt8)) : fnT { P := Tryz.prog, vw := vwA, res := res0, ls := lsSame } 0 fSame [sls encStr A, sls encStr B] [] =
 bif (↑(List.length A) : Int) != (↑(List.length B) : Int) then T.done (Ret.mk (V.bool false) [] [])
 else
 T.bind PUnit.unit fun _ =>
 T.need
 [St.mk (mkTm 26 [(0, V.dsl (List.length A) false (encs encStr A)), (1, V.dsl (List.length B) false (encs encStr B)), (4, V.bool false), (5, V.int IntKind.i64 (0 : Int))]) []
 [] =
 St.mk
 (mkTm 26
 [(0, V.dsl (List.length (decL encStr (encs encStr A))) false (encs encStr (decL encStr (encs encStr A)))),
 (1, V.dsl (List.length (decL encStr (encs encStr B))) false (encs encStr (decL encStr (encs encStr B)))), (4, V.bool false), (5, V.int IntKind.i64 (0 : Int))])
 [] [],
 SoundC (Env.P (Env.mk Tryz.prog vwA res0 lsSame [] [] none (MapE.mk (fun _ _ _ => none) fun _ _ _ _ => none) fun _ _ _ _ _ => none)) 0 (blk Tryz.prog fSame 0)
 (St.mk
 (mkTm 26
 [(0, V.dsl (List.length (decL encStr (encs encStr A))) false (encs encStr (decL encStr (encs encStr A)))),
 (1, V.dsl (List.length (decL encStr (encs encStr B))) false (encs encStr (decL encStr (encs encStr B)))), (4, V.bool false), (5, V.int IntKind.i64 (0 : Int))])
 [] [])
 (Ex.exit 0)
 (St.mk
 (mkTm 26
 [(0, V.dsl (List.length (decL encStr (encs encStr A))) false (encs encStr (decL encStr (encs encStr A)))),
 (1, V.dsl (List.length (decL encStr (encs encStr B))) false (encs encStr (decL encStr (encs encStr B)))), (4, V.bool false),
 (5, V.int IntKind.i64 (↑(List.length (decL encStr (encs encStr A))) : Int))])
 [] [])]
 (T.done (Ret.mk (V.bool true) [] [])) := by kernel_rfl
theorem same_ok (A : List (List UInt8)) (hl : A.length ≤ 4294967296) : FnOK Tryz.prog fSame [sls encStr A, sls encStr A] [] ⟨.bool true, [], []⟩ := by
  refine fnOK_TL (E := { P := Tryz.prog, vw := vwA, res := res0, ls := lsSame }) follows named (sameT A A) (by simp) ?_
  simp only [WP_cond, T.WP, All, and_true, layStr.decL]
  refine ⟨fun h => by simp at h, fun _ => ?_⟩
  intro y _
  exact ⟨⟨trivial, .loopTo (same_loop A hl A.length 0 (by omega))⟩, ⟨rfl, rfl, by simp⟩⟩

end Go.Proofs.YtfncaghjfgnnhaaGreatDoor

namespace Go.Proofs.YtfncaghjfgnnhaaGreatDoor
open Go.RowKit
set_option maxRecDepth 100000

def Cut (r : RS) : Prop := r.bad = true ∨ r.s = []
theorem cut_on {α : Type} {c : UInt8} {f : RS → α → RS × α} {r : RS} {a : α} (n : Nat) (hr : r.bad = false) (h : Cut (f r a).1) : (partsL [c] f (n + 1) r a).1.bad = true := by
  rw [partsL_on _ _ _ _ hr]
  generalize f r a = y at *
  obtain ⟨⟨s, b, m⟩, a'⟩ := y
  have key : ((RS.mk s b m).tk [c]).1 = false ∧ ∀ a' : α, (partsL [c] f n (((RS.mk s b m).tk [c]).2.want [44]) a').1.bad = true := by
    have bad : ∀ (r : RS) (a' : α), r.bad = true → (partsL [c] f n r a').1.bad = true := fun r a' h => by
      obtain ⟨s, b, m⟩ := r
      simp only at h
      subst h
      rw [partsL_bad]
    cases b with
    | true => exact ⟨rfl, fun a' => bad _ _ (want_bad _ _ rfl)⟩
    | false =>
      rcases h with h | h
      · cases h
      · simp only at h
        subst h
        rw [tk_nil]
        exact ⟨rfl, fun a' => bad _ _ (want_no _ _ (by rw [tk_nil]))⟩
  rw [key.1]
  exact key.2 a'
def Cut2 (j : J) (r : RS) : Prop := r.bad = true ∨ (r.s = [] ∧ j.kind = 2)
theorem Cut2.cut {j : J} {r : RS} (h : Cut2 j r) : Cut r := h.imp id fun h => h.1
def PRE (k : Nat) : Prop := ∀ (j : J) (d room : Int) (p u : List UInt8), 0 ≤ d → d + (k : Nat) = 12 → 0 ≤ room → (rightJ j d room).1 = true → u ≠ [] → p ++ u = pj j → Cut2 j (iVal k ⟨p, false, room⟩).2
theorem ne_len {u : List UInt8} (h : u ≠ []) : 1 ≤ u.length := by cases u; exact absurd rfl h; simp
theorem cut_one {q u : List UInt8} {c : UInt8} (hu : u ≠ []) (e : q ++ u = [c]) : q = [] := by
  have := congrArg List.length e
  have := ne_len hu
  simp only [List.length_append, List.length_singleton] at *
  exact List.eq_nil_of_length_eq_zero (by omega)
theorem noNm_pre {q u b : List UInt8} (h : NoNm b) (e : q ++ u = b) : NoNm q := fun c t eq => h c (t ++ u) (by rw [← e, eq]; rfl)
theorem noNm_nil : NoNm [] := fun c t e => by cases e
theorem pre_list {k : Nat} (IH : RT k) (IP : PRE k) {d : Int} (hd : 0 ≤ d) (hk : d + (k : Nat) = 12) : ∀ (xs : List J) (x : J) (m : Int) (acc : List J) (n : Nat) (q u : List UInt8), 0 ≤ m → (rightJs (x :: xs) d m).1 = true → q.length + 1 ≤ n → u ≠ [] → q ++ u = pj x ++ (pjs false false [] xs ++ [93]) →
    (partsL [93] (listStep (iVal k)) n ⟨q, false, m⟩ acc).1.bad = true
  | xs, x, m, acc, 0, q, u, hm, hr, hn, hu, e => by omega
  | xs, x, m, acc, n + 1, q, u, hm, hr, hn, hu, e => by
    obtain ⟨h1, h2⟩ := rightJs_cons hr
    rw [h2] at hr
    have hroom := rightJ_room x d m hm h1
    rcases pre_app e with ⟨v, hv, e1⟩ | ⟨q', rfl, e2⟩
    · exact cut_on n rfl (IP x d m q v hd hk hm h1 hv e1).cut
    · have hnm : NoNm q' := noNm_pre (noNm_pjs _ _ _ _ _ (by decide)) e2
      have er := IH x d m q' hd hk hm h1 hnm
      have es : listStep (iVal k) ⟨pj x ++ q', false, m⟩ acc = (⟨q', false, (rightJ x d m).2⟩, acc ++ [x]) := by
        unfold listStep; rw [er]
      cases q' with
      | nil => exact cut_on n rfl (by rw [es]; exact .inr rfl)
      | cons c q' =>
        cases xs with
        | nil => rw [pjs, List.nil_append] at e2; exact absurd (cut_one hu e2) (by simp)
        | cons y ys =>
          rw [pjs_one, List.cons_append, List.cons_append, prt_f, List.append_assoc] at e2
          replace e2 := List.cons.inj e2
          obtain ⟨rfl, e2⟩ := e2
          rw [partsL_on _ _ _ _ rfl, es]
          rw [tk_no _ _ (by decide) (by decide)]
          simp only [cond_false]
          rw [want_yes _ _ (by decide)]
          exact pre_list IH IP hd hk ys y _ (acc ++ [x]) n q' u hroom.1 hr (by simp only [List.length_append, List.length_cons] at hn; omega) hu e2
theorem iVal_cut (k : Nat) (r : RS) (h : r.bad = true) : Cut (iVal k r).2 := by
  rw [iVal_bad _ _ (.inl h)]; exact .inl rfl
theorem objStep_bad {k : Nat} {r : RS} {a : KM} (h : ((RS.mk (txtE (r.want [34]).bad (r.want [34]).s).2.2 (txtE (r.want [34]).bad (r.want [34]).s).2.1 r.room).want [58]).bad = true) : Cut (objStep (iVal k) r a).1 := by
  refine .inl ?_
  unfold objStep
  have e := iVal_bad k _ (.inl h)
  show ((iVal k ((RS.mk (txtE (r.want [34]).bad (r.want [34]).s).2.2 (txtE (r.want [34]).bad (r.want [34]).s).2.1 r.room).want [58])).2.bad || _) = true
  rw [e]; rfl
theorem objStep_cut {k : Nat} (IP : PRE k) {d : Int} (hd : 0 ≤ d) (hk : d + (k : Nat) = 12) (key : List UInt8) (x : J) (m : Int) (a : KM) (hp : plainT key = true) (hm : 0 ≤ m) (h1 : (rightJ x d m).1 = true) {q v : List UInt8} (hv : v ≠ []) (e : q ++ v = prt true key x) : Cut (objStep (iVal k) ⟨q, false, m⟩ a).1 := by
  replace e : q ++ v = 34 :: ((escL key ++ [34]) ++ (58 :: pj x)) := by
    rw [e]
    have := prt_t key x []
    simp only [List.append_nil] at this
    rw [this]; simp
  cases q with
  | nil =>
    refine objStep_bad ?_
    have h0 : (RS.want ⟨[], false, m⟩ [34]).bad = true := want_no _ _ (by rw [tk_nil])
    rw [h0]
    exact want_bad _ _ rfl
  | cons c q =>
    replace e := List.cons.inj e
    obtain ⟨rfl, e⟩ := e
    have w0 : RS.want ⟨34 :: q, false, m⟩ [34] = ⟨q, false, m⟩ := want_yes _ _ (by decide)
    rcases pre_app e with ⟨w, hw, e1⟩ | ⟨q2, rfl, e2⟩
    · refine objStep_bad ?_
      rw [w0]
      refine want_bad _ _ ?_
      exact txtE_pre hw e1
    · have t0 : txtE false (escL key ++ [34] ++ q2) = (key, false, q2) := by
        have := txtE_esc key q2 hp
        rw [List.append_assoc]; exact this
      cases q2 with
      | nil =>
        refine objStep_bad ?_
        rw [w0, t0]
        exact want_no _ _ (by rw [tk_nil])
      | cons c q3 =>
        replace e2 := List.cons.inj e2
        obtain ⟨rfl, e3⟩ := e2
        have h3 := (IP x d m q3 v hd hk hm h1 hv e3).cut
        have es : (objStep (iVal k) ⟨34 :: (escL key ++ [34] ++ 58 :: q3), false, m⟩ a).1 = ⟨(iVal k ⟨q3, false, m⟩).2.s, (iVal k ⟨q3, false, m⟩).2.bad || (kvGet key a.m).isSome, (iVal k ⟨q3, false, m⟩).2.room⟩ := by
          unfold objStep
          simp only [w0, t0]
          rw [want_yes _ _ (by decide)]
        rw [es]
        rcases h3 with h | h
        · exact .inl (by simp [h])
        · exact .inr h
theorem pre_obj {k : Nat} (IH : RT k) (IP : PRE k) {d : Int} (hd : 0 ≤ d) (hk : d + (k : Nat) = 12) : ∀ (xs : List J) (x : J) (key : List UInt8) (ks : List (List UInt8)) (m : Int) (K : List (List UInt8)) (L : List J) (n : Nat) (q u : List UInt8), 0 ≤ m → (rightJs (x :: xs) d m).1 = true → q.length + 1 ≤ n → u ≠ [] →
    ks.length = xs.length → K.length = L.length → (K ++ key :: ks).Nodup → (∀ s ∈ key :: ks, plainT s = true) → q ++ u = prt true key x ++ (pjs true false ks xs ++ [125]) →
    (partsL [125] (objStep (iVal k)) n ⟨q, false, m⟩ ⟨K, K.zip L⟩).1.bad = true
  | xs, x, key, ks, m, K, L, 0, q, u, hm, hr, hn, hu, _, _, _, _, e => by omega
  | xs, x, key, ks, m, K, L, n + 1, q, u, hm, hr, hn, hu, hl, hKL, hnd, hp, e => by
    obtain ⟨h1, h2⟩ := rightJs_cons hr
    rw [h2] at hr
    have hroom := rightJ_room x d m hm h1
    rcases pre_app e with ⟨v, hv, e1⟩ | ⟨q', rfl, e2⟩
    · exact cut_on n rfl (objStep_cut IP hd hk key x m _ (hp key (by simp)) hm h1 hv e1)
    · have hnm : NoNm q' := noNm_pre (noNm_pjs _ _ _ _ _ (by decide)) e2
      have hK : key ∉ K := by
        rw [List.nodup_append] at hnd
        exact fun h => hnd.2.2 key h key (by simp) rfl
      have es := objStep_go IH hd hk key x m q' ⟨K, K.zip L⟩ (hp key (by simp)) hm h1 hnm (zip_key hK)
      cases q' with
      | nil => exact cut_on n rfl (by rw [es]; exact .inr rfl)
      | cons c q' =>
        cases xs with
        | nil =>
          rw [pjs, List.nil_append] at e2; exact absurd (cut_one hu e2) (by simp)
        | cons y ys =>
          cases ks with
          | nil => simp at hl
          | cons key' ks =>
          rw [pjs_one, List.cons_append, List.cons_append, List.append_assoc] at e2
          replace e2 := List.cons.inj e2
          obtain ⟨rfl, e2⟩ := e2
          simp only [List.headD_cons, List.tail_cons] at e2
          rw [partsL_on _ _ _ _ rfl, es]
          rw [tk_no _ _ (by decide) (by decide)]
          simp only [cond_false]
          rw [want_yes _ _ (by decide)]
          have ez : K.zip L ++ [(key, x)] = (K ++ [key]).zip (L ++ [x]) := by rw [List.zip_append hKL]; rfl
          have e1 : K ++ key :: key' :: ks = (K ++ [key]) ++ key' :: ks := by simp
          rw [e1] at hnd
          rw [ez]
          exact pre_obj IH IP hd hk ys y key' ks _ (K ++ [key]) (L ++ [x]) n q' u hroom.1 hr (by simp only [List.length_append, List.length_cons] at hn; omega) hu (by simpa using hl) (by simp [hKL]) hnd (fun s hs => hp s (by simp at hs ⊢; exact .inr hs)) e2
theorem nm_none {k : Nat} {p : List UInt8} {m : Int} (h1 : iValB k p m = (nmJ p, ⟨p.dropWhile nmC, nmB false p, m⟩)) (h2 : p.takeWhile nmC = []) : (iValB k p m).2.bad = true := by
  rw [h1]
  unfold nmB
  rw [h2]; rfl
theorem pre : ∀ k, PRE k
  | 0, j, d, room, p, u, hd, hk, hr, h, hu, e => by
    have := rightJ_in h
    omega
  | k + 1, j, d, room, [], u, hd, hk, hr, h, hu, e => by
    rw [iVal_bad _ _ (.inr (.inr rfl))]; exact .inl rfl
  | k + 1, j, d, room, c :: p, u, hd, hk, hr, h, hu, e => by
    have IH := rt k
    have IP := pre k
    obtain ⟨h1, h2, h3, h4⟩ := rightJ_in h
    obtain ⟨hz, hp⟩ := part_head h3
    obtain ⟨c', s, ec, hc, _⟩ := hp.cons
    have hcc : c = c' := by rw [ec] at e; exact (List.cons.inj e).1
    subst hcc
    rw [iVal_cons k c _ room hc h1]
    rw [h4] at h
    cases hp with
    | null =>
      rw [pj_null] at e
      simp only [List.cons_append, List.cons.injEq] at e
      obtain ⟨rfl, e⟩ := e
      rcases p with _ | ⟨a, _ | ⟨b, _ | ⟨c, p⟩⟩⟩
      · exact .inl (nm_none rfl rfl)
      · simp at e; obtain ⟨rfl, e⟩ := e; exact .inl (nm_none rfl rfl)
      · simp at e; obtain ⟨rfl, rfl, e⟩ := e; exact .inl (nm_none rfl rfl)
      · simp at e; exact absurd e.2.2.2.2 hu
    | ff =>
      rw [pj_ff] at e
      simp only [List.cons_append, List.cons.injEq] at e
      obtain ⟨rfl, e⟩ := e
      rcases p with _ | ⟨a, _ | ⟨b, _ | ⟨c, _ | ⟨g, p⟩⟩⟩⟩
      · exact .inl (nm_none rfl rfl)
      · simp at e; obtain ⟨rfl, e⟩ := e; exact .inl (nm_none rfl rfl)
      · simp at e; obtain ⟨rfl, rfl, e⟩ := e; exact .inl (nm_none rfl rfl)
      · simp at e; obtain ⟨rfl, rfl, rfl, e⟩ := e; exact .inl (nm_none rfl rfl)
      · simp at e; exact absurd e.2.2.2.2.2 hu
    | tt =>
      rw [pj_tt] at e
      simp only [List.cons_append, List.cons.injEq] at e
      obtain ⟨rfl, e⟩ := e
      rcases p with _ | ⟨a, _ | ⟨b, _ | ⟨c, p⟩⟩⟩
      · exact .inl (nm_none rfl rfl)
      · simp at e; obtain ⟨rfl, e⟩ := e; exact .inl (nm_none rfl rfl)
      · simp at e; obtain ⟨rfl, rfl, e⟩ := e; exact .inl (nm_none rfl rfl)
      · simp at e; exact absurd e.2.2.2.2 hu
    | @num n hb =>
      rw [pj_num] at e
      have hD := (dgOK n hb).nm
      have hnm : ∀ x ∈ c :: p, nmC x = true := fun x hx => hD x (by rw [← e]; exact List.mem_append_left _ hx)
      rw [iValB_num k c p _ (hnm c (by simp))]
      refine .inr ⟨?_, rfl⟩
      have := (takeW_app (p := nmC) (c :: p) [] hnm (fun c t e => by cases e)).2
      simpa using this
    | @txt t ht =>
      rw [pj_txt] at e
      unfold quo at e
      replace e := List.cons.inj e
      obtain ⟨rfl, e⟩ := e
      rw [iValB_txt]
      exact .inl (txtE_pre hu e)
    | @lst its =>
      rw [pj_lst] at e
      replace e := List.cons.inj e
      obtain ⟨rfl, e⟩ := e
      rw [iValB_lst]
      refine .inl ?_
      show (partsE [93] (listStep (iVal k)) ⟨p, false, room - 1⟩ []).1.bad = true
      unfold partsE
      cases p with
      | nil =>
        rw [tk_nil]
        show (partsL [93] (listStep (iVal k)) (1 + 1) ⟨[], false, room - 1⟩ []).1.bad = true
        refine cut_on 1 rfl ?_
        show Cut (iVal k ⟨[], false, room - 1⟩).2
        rw [iVal_bad _ _ (.inr (.inr rfl))]; exact .inl rfl
      | cons c p =>
        cases its with
        | nil => rw [pjs, List.nil_append] at e; exact absurd (cut_one hu e) (by simp)
        | cons x xs =>
          rw [pjs_fst, prt_f, List.append_assoc, show ([] : List (List UInt8)).tail = [] from rfl] at e
          obtain ⟨q1, q2⟩ := rightJs_cons h
          obtain ⟨_, _, q3, _⟩ := rightJ_in q1
          obtain ⟨c', s, ec, hc, hn93, _⟩ := (part_head q3).2.cons
          have hcc : c = c' := by rw [ec] at e; exact (List.cons.inj e).1
          subst hcc
          rw [tk_no _ _ hc hn93]
          exact pre_list IH IP (d := d + 1) (by omega) (by omega) xs x (room - 1) [] _ (c :: p) u h1 h (by simp) hu e
    | @obj ks its hl hk2 =>
      rw [pj_obj] at e
      replace e := List.cons.inj e
      obtain ⟨rfl, e⟩ := e
      rw [iValB_obj]
      refine .inl ?_
      show (partsE [125] (objStep (iVal k)) ⟨p, false, room - 1⟩ ⟨[], []⟩).1.bad = true
      unfold partsE
      cases p with
      | nil =>
        rw [tk_nil]
        show (partsL [125] (objStep (iVal k)) (1 + 1) ⟨[], false, room - 1⟩ ⟨[], []⟩).1.bad = true
        refine cut_on 1 rfl (objStep_bad ?_)
        have h0 : (RS.want ⟨[], false, room - 1⟩ [34]).bad = true := want_no _ _ (by rw [tk_nil])
        show (RS.want ⟨(txtE (RS.want ⟨[], false, room - 1⟩ [34]).bad _).2.2, (txtE (RS.want ⟨[], false, room - 1⟩ [34]).bad _).2.1, _⟩ [58]).bad = true
        rw [h0]
        exact want_bad _ _ rfl
      | cons c p =>
        cases its with
        | nil =>
          obtain rfl : ks = [] := List.eq_nil_of_length_eq_zero hl
          rw [pjs, List.nil_append] at e; exact absurd (cut_one hu e) (by simp)
        | cons x xs =>
          cases ks with
          | nil => simp at hl
          | cons key ks =>
          rw [pjs_fst, List.append_assoc] at e
          simp only [List.headD_cons, List.tail_cons] at e
          have hcc : c = 34 := by
            rw [prt_t] at e; exact (List.cons.inj e).1
          subst hcc
          rw [tk_no _ _ (by decide) (by decide)]
          exact pre_obj IH IP (d := d + 1) (by omega) (by omega) xs x key ks (room - 1) [] [] _ (34 :: p) u h1 h (by simp) hu (by simpa using hl) rfl (by simpa using areK_nodup hk2) (areK_mem hk2) e
end Go.Proofs.YtfncaghjfgnnhaaGreatDoor

namespace Go.Proofs.YtfncaghjfgnnhaaGreatDoor
open Go.RowKit
set_option maxRecDepth 100000

structure OKJ (j : J) : Prop where
  ok : okJ j = true
  pr : FnOK Tryz.prog fPrint [.agg (vwJ j)] [] ⟨.str (pj j), [], []⟩
theorem OKJ.rj {j : J} (h : OKJ j) : RJ j ∧ jn j ≤ 400 := okJ_rj h.ok
theorem OKJ.rd {j : J} (h : OKJ j) : RD j 0 := ⟨400, by omega, h.ok⟩
theorem OKJ.iok {j : J} (h : OKJ j) : FnOK Tryz.prog fIJsonOK [.agg (vwJ j)] [] ⟨.bool true, [], []⟩ := by
  have := jsonOK_ok j (h.rj.1.mj 400 h.rj.2 (by omega))
  rw [h.ok] at this; exact this
theorem OKJ.sok {j : J} (h : OKJ j) : FnOK Tryz.prog fSOK [.agg (vwJ j), .int .i64 12] [] ⟨.tup [.int .i64 (jn j : Nat), .bool true], [], []⟩ := by
  have := sOk_ok 400 j 0 h.rj.2 (by omega) (by omega) h.rd
  exact this
theorem OKJ.sjok {j : J} (h : OKJ j) : FnOK Tryz.prog fSJOK [.agg (vwJ j)] [] ⟨.bool true, [], []⟩ := by
  refine fnOK_TL (E := EPub) follows named (sjokT j) (by simp) ?_
  simp only [T.WP, All, and_true, jOf_vw]
  rintro y rfl
  exact ⟨h.sok, ⟨rfl, rfl, by simp⟩⟩
theorem OKJ.sprint {j : J} (h : OKJ j) : FnOK Tryz.prog fSPrintJ [.agg (vwJ j)] [] ⟨.tup [.str (pj j), .int .i64 0], [], []⟩ := by
  refine fnOK_TL (E := EPub) follows named (spjT j) (by simp) ?_
  simp only [T.WP, All, and_true, jOf_vw]
  rintro y -
  refine ⟨h.sjok, ?_⟩
  rintro y rfl
  exact ⟨h.pr, ⟨rfl, rfl, by simp⟩⟩
theorem OKJ.snodes {j : J} (h : OKJ j) : FnOK Tryz.prog fSNodes [.agg (vwJ j)] [] ⟨.tup [.int .i64 (jn j : Nat), .int .i64 0], [], []⟩ := by
  refine fnOK_TL (E := EPub) follows named (snodT j) (by simp) ?_
  simp only [T.WP, All, and_true, jOf_vw]
  rintro y rfl
  exact ⟨h.sok, ⟨rfl, rfl, by simp⟩⟩
theorem OKJ.sdep {j : J} (h : OKJ j) : FnOK Tryz.prog fSDepJ [.agg (vwJ j)] [] ⟨.tup [.int .i64 (jdep j : Nat), .int .i64 0], [], []⟩ := by
  refine fnOK_TL (E := EPub) follows named (sdepT j) (by simp) ?_
  simp only [T.WP, All, and_true, jOf_vw]
  rintro y -
  refine ⟨h.sjok, ?_⟩
  rintro y rfl
  exact ⟨sdepth_ok 400 j h.rj.2 (by omega) h.rj.1, ⟨rfl, rfl, by simp⟩⟩
theorem OKJ.inodes {j : J} (h : OKJ j) : FnOK Tryz.prog fINodesJ [.agg (vwJ j)] [] ⟨.tup [.int .i64 (jn j : Nat), .int .i64 0], [], []⟩ := by
  refine fnOK_TL (E := EPub) follows named (inodT j) (by simp) ?_
  simp only [T.WP, All, and_true, jOf_vw]
  rintro y -
  refine ⟨h.iok, ?_⟩
  rintro y rfl
  exact ⟨nodes_ok 400 j h.rj.2 (by omega), ⟨rfl, rfl, by simp⟩⟩
theorem OKJ.idep {j : J} (h : OKJ j) : FnOK Tryz.prog fIDepJ [.agg (vwJ j)] [] ⟨.tup [.int .i64 (jdep j : Nat), .int .i64 0], [], []⟩ := by
  refine fnOK_TL (E := EPub) follows named (idepT j) (by simp) ?_
  simp only [T.WP, All, and_true, jOf_vw]
  rintro y -
  refine ⟨h.iok, ?_⟩
  rintro y rfl
  exact ⟨depth_ok 400 j h.rj.2 (by omega) h.rj.1, ⟨rfl, rfl, by simp⟩⟩

abbrev fSameJ : Nat := 14
noncomputable def resSJ : ResT := fun f vs hp => match vs, hp with
  | [.agg [.int _ _, .int _ _, .str _, .dsl _ _ _, .dsl _ _ _], .agg _], [] => bif Nat.beq f fSameJ then some ⟨(), fun _ => ⟨.bool true, [], []⟩⟩ else none
  | [.dsl _ _ _, .dsl _ _ _], [] => bif Nat.beq f fSame then some ⟨(), fun _ => ⟨.bool true, [], []⟩⟩ else none
  | _, _ => none
noncomputable def ESJ : Env := { P := Tryz.prog, vw := vwA, res := resSJ }
def stSj (j : J) (i : Int) : St := ⟨mkTm 61 [(2, .ptr 0 0), (3, .ptr 1 0), (4, .bool false), (5, .int .i64 i)], [some (vwJ j, tJ), some (vwJ j, tJ)], []⟩
def nfSj : Ex → Kp := fun ex => match ex with
  | .ret => { keep := [4] }
  | .normal => { keep := [2, 3, 4, 5] }
  | _ => { keep := [] }
--FOLD vwJ
set_option maxRecDepth 100000 in
theorem sjL (j : J) (i : Int) : bodyT ESJ 0 nfSj (lp Tryz.prog fSameJ 0) (stSj j i) =
 bif decide (i < (↑(List.length (J.items j)) : Int)) then
 T.need
 [(0 : Int) ≤ i ∧ i < (↑(List.length (J.items j)) : Int),
 List.take 5 (List.drop (Int.toNat i * 5) (encs encJ (J.items j))) = vwJ (List.getD (decL encJ (encs encJ (J.items j))) (Int.toNat i) (J.mk (0 : Int) (0 : Int) [] [] []))]
 (T.need
 [(0 : Int) ≤ i ∧ i < (↑(List.length (J.items j)) : Int),
 List.take 5 (List.drop (Int.toNat i * 5) (encs encJ (J.items j))) = vwJ (List.getD (decL encJ (encs encJ (J.items j))) (Int.toNat i) (J.mk (0 : Int) (0 : Int) [] [] []))]
 (T.bind PUnit.unit fun _ =>
 T.need
 [FnOK (Env.P ESJ) 14
 [V.agg (vwJ (List.getD (decL encJ (encs encJ (J.items j))) (Int.toNat i) (J.mk (0 : Int) (0 : Int) [] [] []))),
 V.agg (vwJ (List.getD (decL encJ (encs encJ (J.items j))) (Int.toNat i) (J.mk (0 : Int) (0 : Int) [] [] [])))]
 [] (Ret.mk (V.bool true) [] [])]
 (T.done
 (Ex.normal,
 St.mk (mkTm 61 [(2, V.ptr 0 0), (3, V.ptr 1 0), (4, V.bool false), (5, V.int IntKind.i64 (IntKind.wrap IntKind.i64 (i + (1 : Int))))])
 [some (vwJ j, 25), some (vwJ j, 25)] []))))
 else T.done (Ex.exit 0, St.mk (mkTm 61 []) [] []) := by kernel_rfl
theorem sj_loop (j : J) (hL : ∀ x ∈ j.items, FnOK Tryz.prog fSameJ [.agg (vwJ x), .agg (vwJ x)] [] ⟨.bool true, [], []⟩) (hl : j.items.length ≤ 4294967296) : ∀ (m i : Nat), i + m = j.items.length →
    LoopTo Tryz.prog 0 (lp Tryz.prog fSameJ 0) (stSj j i) (.exit 0) ⟨mkTm 61 [], [], []⟩
  | 0, i, h => by
    obtain rfl : i = j.items.length := h
    refine loopT (E := ESJ) follows named (sjL j _) ?_
    simp only [WP_cond, T.WP, All, decide_eq_true_eq, decide_eq_false_iff_not, and_true]
    exact ⟨fun h => by omega, fun _ => ⟨rfl, rfl⟩⟩
  | m + 1, i, h => by
    refine loopT (E := ESJ) follows named (sjL j i) ?_
    have hat := vwJ_at j.items i (by omega)
    simp only [WP_cond, T.WP, All, decide_eq_true_eq, decide_eq_false_iff_not, and_true, Int.toNat_natCast, layJ.decL, wrap_succ (show i < 9223372036854775807 by omega), show J.mk 0 0 [] [] [] = J.zero from rfl]
    refine ⟨fun _ => ⟨⟨by omega, hat⟩, ⟨by omega, hat⟩, ?_⟩, fun h => by omega⟩
    rintro y -
    exact ⟨hL _ (j_mem (by omega)), sj_loop j hL hl m (i + 1) (by omega)⟩
noncomputable def lsSj (j : J) : Nat → St → Option LRes := fun id _ => match id with
  | 0 => some ⟨(), fun _ => .one { keep := [2, 3, 4, 5] } (stSj j 0) (.exit 0) ⟨mkTm 61 [], [], []⟩⟩
  | _ => none
set_option maxRecDepth 100000 in
theorem sjT (j : J) : fnT { P := Tryz.prog, vw := vwA, res := resSJ, ls := lsSj j } 0 fSameJ [.agg (vwJ j), .agg (vwJ j)] [] =
 bif J.kind j != J.kind j then T.done (Ret.mk (V.bool false) [] [])
 else
 bif J.n j != J.n j then T.done (Ret.mk (V.bool false) [] [])
 else
 bif !J.t j == J.t j then T.done (Ret.mk (V.bool false) [] [])
 else
 T.bind PUnit.unit fun _ =>
 T.need
 [FnOK (Env.P (Env.mk Tryz.prog vwA resSJ (lsSj j) [] [] none (MapE.mk (fun _ _ _ => none) fun _ _ _ _ => none) fun _ _ _ _ _ => none)) 37
 [V.dsl (List.length (J.keys j)) false (encs encStr (J.keys j)), V.dsl (List.length (J.keys j)) false (encs encStr (J.keys j))] [] (Ret.mk (V.bool true) [] [])]
 (bif (↑(List.length (J.items j)) : Int) != (↑(List.length (J.items j)) : Int) then T.done (Ret.mk (V.bool false) [] [])
 else
 T.bind PUnit.unit fun _ =>
 T.need
 [St.mk (mkTm 61 [(2, V.ptr 0 0), (3, V.ptr 1 0), (4, V.bool false), (5, V.int IntKind.i64 (0 : Int))])
 [some (vwJ j, 25), some (vwJ j, 25)] [] =
 St.mk (mkTm 61 [(2, V.ptr 0 0), (3, V.ptr 1 0), (4, V.bool false), (5, V.int IntKind.i64 (0 : Int))])
 [some (vwJ j, 25), some (vwJ j, 25)] [],
 SoundC (Env.P (Env.mk Tryz.prog vwA resSJ (lsSj j) [] [] none (MapE.mk (fun _ _ _ => none) fun _ _ _ _ => none) fun _ _ _ _ _ => none)) 0
 (Code.loop
 (Code.seq
 (Code.seq
 (Code.region 4
 #[Oper.mk (some 42) (Op.move (Operand.tmp 5)) 3 "laws.go:99" #[] none,
 Oper.mk (some 43) (Op.fieldAddr 25 (Operand.tmp 2) 4) 0 "laws.go:99" #[] none,
 Oper.mk (some 44) (Op.load 23 (Operand.tmp 43)) 23 "laws.go:99" #[Edge.mk 1 Ground.data] none,
 Oper.mk (some 45) (Op.call (Call.mk (Callee.builtin Builtin.len) #[Operand.tmp 44] #[23])) 3 "laws.go:99" #[Edge.mk 2 Ground.data] none,
 Oper.mk (some 46) (Op.binOp BinOp.lss 3 (Operand.tmp 42) (Operand.tmp 45) 3) 4 "laws.go:99"
 #[Edge.mk 0 Ground.data, Edge.mk 3 Ground.data] none]
 false)
 (Code.cond (Operand.tmp 46) Code.skip (Code.exit 0)))
 (Code.seq
 (Code.block 1
 (Code.seq
 (Code.region 6
 #[Oper.mk (some 49) (Op.fieldAddr 25 (Operand.tmp 2) 4) 0 "laws.go:100" #[] none,
 Oper.mk (some 50) (Op.load 23 (Operand.tmp 49)) 23 "laws.go:100" #[Edge.mk 0 Ground.data] none,
 Oper.mk (some 51) (Op.move (Operand.tmp 5)) 3 "laws.go:100" #[] none,
 Oper.mk (some 52) (Op.indexAddr 23 (Operand.tmp 50) (Operand.tmp 51)) 0 "laws.go:100"
 #[Edge.mk 1 Ground.data, Edge.mk 2 Ground.data] none,
 Oper.mk (some 53) (Op.load 25 (Operand.tmp 52)) 25 "laws.go:100" #[Edge.mk 3 Ground.data] none,
 Oper.mk (some 54) (Op.fieldAddr 25 (Operand.tmp 3) 4) 0 "laws.go:100" #[] none,
 Oper.mk (some 55) (Op.load 23 (Operand.tmp 54)) 23 "laws.go:100" #[Edge.mk 5 Ground.data] none,
 Oper.mk (some 56) (Op.move (Operand.tmp 5)) 3 "laws.go:100" #[] none,
 Oper.mk (some 57) (Op.indexAddr 23 (Operand.tmp 55) (Operand.tmp 56)) 0 "laws.go:100"
 #[Edge.mk 6 Ground.data, Edge.mk 7 Ground.data] none,
 Oper.mk (some 58) (Op.load 25 (Operand.tmp 57)) 25 "laws.go:100" #[Edge.mk 8 Ground.data] none,
 Oper.mk (some 59) (Op.call (Call.mk (Callee.value (Operand.func 14)) #[Operand.tmp 53, Operand.tmp 58] #[25, 25])) 4 "laws.go:100"
 #[Edge.mk 4 Ground.data, Edge.mk 9 Ground.data] none,
 Oper.mk (some 60) (Op.unOp UnOp.not 4 (Operand.tmp 59)) 4 "laws.go:100" #[Edge.mk 10 Ground.data] none]
 true)
 (Code.cond (Operand.tmp 60)
 (Code.seq (Code.region 7 #[Oper.mk (some 4) (Op.assign (Operand.const (Value.bool false))) 4 "laws.go:101" #[] none] false) Code.ret) Code.skip)))
 (Code.region 5
 #[Oper.mk (some 47) (Op.move (Operand.tmp 5)) 3 "laws.go:99" #[] none,
 Oper.mk (some 48) (Op.binOp BinOp.add 3 (Operand.tmp 47) (Operand.const (Value.int IntKind.i64 (1 : Int))) 3) 3 "laws.go:99"
 #[Edge.mk 0 Ground.data] none,
 Oper.mk (some 5) (Op.assign (Operand.tmp 48)) 3 "laws.go:99" #[Edge.mk 1 Ground.data, Edge.mk 0 Ground.phase, Edge.mk 1 Ground.phase] none]
 false))))
 (St.mk (mkTm 61 [(2, V.ptr 0 0), (3, V.ptr 1 0), (4, V.bool false), (5, V.int IntKind.i64 (0 : Int))])
 [some (vwJ j, 25), some (vwJ j, 25)] [])
 (Ex.exit 0) (St.mk (mkTm 61 []) [] [])]
 (T.done (Ret.mk (V.bool true) [] []))) := by kernel_rfl
theorem sj_ok : ∀ (m : Nat) (j : J), jn j ≤ m → m ≤ 1000 → RJ j → FnOK Tryz.prog fSameJ [.agg (vwJ j), .agg (vwJ j)] [] ⟨.bool true, [], []⟩
  | 0, j, hm, _, _ => by rw [jn_eq] at hm; omega
  | m + 1, j, hm, hm2, hr => by
    have hn := jn_eq j
    have hl := jns_length j.items
    have hk := (part_flds hr.part).kl
    refine fnOK_TL (E := { P := Tryz.prog, vw := vwA, res := resSJ, ls := lsSj j }) follows named (sjT j) (by simp) ?_
    simp only [WP_cond, T.WP, All, and_true, ne_eq, bne_iff_ne, bne_eq_false_iff_eq, ne_eq]
    have h := sj_loop j (fun x hx => sj_ok m x (by have := jns_mem x hx; omega) (by omega) (hr.item x hx)) (by omega) j.items.length 0 (by omega)
    refine ⟨fun h => absurd trivial h, fun _ => ⟨fun h => absurd trivial h, fun _ => ⟨fun h => by simp at h, fun _ => ?_⟩⟩⟩
    rintro y -
    refine ⟨same_ok _ (by omega), fun h => absurd trivial h, fun _ => ?_⟩
    rintro y -
    exact ⟨⟨trivial, .loopTo h⟩, ⟨rfl, rfl, by simp⟩⟩
end Go.Proofs.YtfncaghjfgnnhaaGreatDoor

/-
  The library's Replace over single bytes.
  The library's Replace over single bytes gives the text with what is set ahead of some bytes.
-/
import Derived.Test.YtfncaghjfgnnhaaGreatDoorJxAg
import Derived.Shelf.Strings.Count
namespace Go.Proofs.YtfncaghjfgnnhaaGreatDoor
open Go.RowKit
set_option maxRecDepth 100000

abbrev fCount : Nat := 215
abbrev H116 : Hp := [repB 1, s34, s92, trB]
def escBQ (c : UInt8) : List UInt8 := if c = 34 then [92, c] else if c = 92 then [92, c] else [c]
def escLQ (t : List UInt8) : List UInt8 := t.flatMap escBQ

noncomputable def resCnt (g : UInt8 → Nat) : ResT := fun f vs hp => match vs with
  | [.str _, .str [c]] => bif Nat.beq f fCount then some ⟨g c, fun y => ⟨.int .i64 (y : Nat), [], []⟩⟩ else none
  | _ => none
noncomputable def E116 (g : UInt8 → Nat) (v : V) : Env := { P := Tryz.prog, vw := fun _ _ _ => none, res := resCnt g, vs := [(16, 5, v), (17, 6, v), (27, 5, v), (28, 9, v)] }

def stA (t : List UInt8) (k : Int) (n : Int) (b : Bool) : St := ⟨mkTm 122 [(0, .ptr 0 0), (1, .str t), (5, .int .i64 n), (6, .bool b), (30, .sl 3 0 2 false), (31, .int .i64 2), (32, .int .i64 k)], H116, []⟩
def stX (t : List UInt8) (n : Int) (b : Bool) : St := ⟨mkTm 122 [(0, .ptr 0 0), (1, .str t), (5, .int .i64 n), (6, .bool b)], H116, []⟩
def nfA : Ex → Kp := fun ex => match ex with
  | .normal => { keep := [0, 1, 5, 6, 30, 31, 32] }
  | _ => { keep := [0, 1, 5, 6] }
def stC (t : List UInt8) (i n : Int) (b : Bool) : St := ⟨mkTm 122 [(0, .ptr 0 0), (1, .str t), (5, .int .i64 n), (6, .bool b), (10, .int .i64 i)], H116, []⟩
def nfC : Ex → Kp := fun ex => match ex with
  | .normal => { keep := [0, 1, 5, 6, 10] }
  | _ => { keep := [0, 1, 5, 6] }
def bytBQ (l : List UInt8) : Option Blk := some ([.sld (encs encByte l)], 5)
def stE (t B : List UInt8) (j i : Int) (fl : Bool) : St := ⟨mkTm 122 [(0, .ptr 0 0), (1, .str t), (12, .sl 4 0 B.length fl), (13, .int .i64 j), (14, .int .i64 i)], [repB 1, s34, s92, trB, bytBQ B], []⟩
def stY (B : List UInt8) (fl : Bool) : St := ⟨mkTm 122 [(12, .sl 4 0 B.length fl)], [repB 1, s34, s92, trB, bytBQ B], []⟩
def nfE : Ex → Kp := fun ex => match ex with
  | .normal => { keep := [0, 1, 12, 13, 14] }
  | _ => { keep := [12] }

--FOLD bytBQ
set_option maxRecDepth 100000 in
theorem cntA0 (g : UInt8 → Nat) (t : List UInt8) (n : Int) (b : Bool) : bodyT (E116 g nilS) 4 nfA (lp Tryz.prog fByteRep 0) (stA t 0 n b) =
 T.need [(0 : Int) ≤ (0 : Int) ∧ (0 : Int) < (2 : Int)]
 (T.bind (g (92 : UInt8)) fun y0 =>
 T.need [FnOK (Env.P (E116 g (V.lit (Value.slice none 0 0)))) 215 [V.str t, V.str [92]] [] (Ret.mk (V.int IntKind.i64 (↑y0 : Int)) [] [])]
 (bif (↑y0 : Int) != (0 : Int) then
 T.need [(0 : Int) ≤ (0 : Int) ∧ (0 : Int) < (1 : Int)]
 (T.need [(0 : Int) ≤ (92 : Int) ∧ (92 : Int) < (256 : Int)]
 (T.done
 (Ex.normal,
 St.mk
 (mkTm 122
 [(0, V.ptr 0 0), (1, V.str t), (5, V.int IntKind.i64 (IntKind.wrap IntKind.i64 (n + IntKind.wrap IntKind.i64 ((↑y0 : Int) * (1 : Int))))),
 (6, V.bool true), (30, V.sl 3 0 2 false), (31, V.int IntKind.i64 (2 : Int)), (32, V.int IntKind.i64 (1 : Int))])
 [(repB 1),
 some ([V.sld [V.int IntKind.u8 (92 : Int), V.int IntKind.u8 (34 : Int)]], 5), some ([V.sld [V.int IntKind.u8 (92 : Int), V.int IntKind.u8 (92 : Int)]], 5),
 some ([V.str [92], V.str [34]], 9)]
 [])))
 else
 T.done
 (Ex.normal,
 St.mk
 (mkTm 122
 [(0, V.ptr 0 0), (1, V.str t), (5, V.int IntKind.i64 n), (6, V.bool b), (30, V.sl 3 0 2 false),
 (31, V.int IntKind.i64 (2 : Int)), (32, V.int IntKind.i64 (1 : Int))])
 [(repB 1),
 some ([V.sld [V.int IntKind.u8 (92 : Int), V.int IntKind.u8 (34 : Int)]], 5), some ([V.sld [V.int IntKind.u8 (92 : Int), V.int IntKind.u8 (92 : Int)]], 5),
 some ([V.str [92], V.str [34]], 9)]
 []))) := (T.force_eq _).symm.trans (by kernel_rfl)
set_option maxRecDepth 100000 in
theorem cntA1 (g : UInt8 → Nat) (t : List UInt8) (n : Int) (b : Bool) : bodyT (E116 g nilS) 4 nfA (lp Tryz.prog fByteRep 0) (stA t 1 n b) =
 T.need [(0 : Int) ≤ (1 : Int) ∧ (1 : Int) < (2 : Int)]
 (T.bind (g (34 : UInt8)) fun y0 =>
 T.need [FnOK (Env.P (E116 g (V.lit (Value.slice none 0 0)))) 215 [V.str t, V.str [34]] [] (Ret.mk (V.int IntKind.i64 (↑y0 : Int)) [] [])]
 (bif (↑y0 : Int) != (0 : Int) then
 T.need [(0 : Int) ≤ (0 : Int) ∧ (0 : Int) < (1 : Int)]
 (T.need [(0 : Int) ≤ (34 : Int) ∧ (34 : Int) < (256 : Int)]
 (T.done
 (Ex.normal,
 St.mk
 (mkTm 122
 [(0, V.ptr 0 0), (1, V.str t), (5, V.int IntKind.i64 (IntKind.wrap IntKind.i64 (n + IntKind.wrap IntKind.i64 ((↑y0 : Int) * (1 : Int))))),
 (6, V.bool true), (30, V.sl 3 0 2 false), (31, V.int IntKind.i64 (2 : Int)), (32, V.int IntKind.i64 (2 : Int))])
 [(repB 1),
 some ([V.sld [V.int IntKind.u8 (92 : Int), V.int IntKind.u8 (34 : Int)]], 5), some ([V.sld [V.int IntKind.u8 (92 : Int), V.int IntKind.u8 (92 : Int)]], 5),
 some ([V.str [92], V.str [34]], 9)]
 [])))
 else
 T.done
 (Ex.normal,
 St.mk
 (mkTm 122
 [(0, V.ptr 0 0), (1, V.str t), (5, V.int IntKind.i64 n), (6, V.bool b), (30, V.sl 3 0 2 false),
 (31, V.int IntKind.i64 (2 : Int)), (32, V.int IntKind.i64 (2 : Int))])
 [(repB 1),
 some ([V.sld [V.int IntKind.u8 (92 : Int), V.int IntKind.u8 (34 : Int)]], 5), some ([V.sld [V.int IntKind.u8 (92 : Int), V.int IntKind.u8 (92 : Int)]], 5),
 some ([V.str [92], V.str [34]], 9)]
 []))) := (T.force_eq _).symm.trans (by kernel_rfl)
set_option maxRecDepth 100000 in
theorem cntA2 (g : UInt8 → Nat) (t : List UInt8) (n : Int) (b : Bool) : bodyT (E116 g nilS) 4 nfA (lp Tryz.prog fByteRep 0) (stA t 2 n b) =
 T.done
 (Ex.exit 0,
 St.mk (mkTm 122 [(0, V.ptr 0 0), (1, V.str t), (5, V.int IntKind.i64 n), (6, V.bool b)])
 [(repB 1),
 some ([V.sld [V.int IntKind.u8 (92 : Int), V.int IntKind.u8 (34 : Int)]], 5), some ([V.sld [V.int IntKind.u8 (92 : Int), V.int IntKind.u8 (92 : Int)]], 5),
 some ([V.str [92], V.str [34]], 9)]
 []) := (T.force_eq _).symm.trans (by kernel_rfl)
set_option maxRecDepth 100000 in
theorem cntC34 (t : List UInt8) (i n : Int) (b : Bool) : bodyT (E116 (fun _ => 0) (.sl 1 0 2 false)) 4 nfC (lp Tryz.prog fByteRep 2) (stC t i n b) =
 bif decide (i < (↑(List.length t) : Int)) then
 T.need [(0 : Int) ≤ i ∧ i < (↑(List.length t) : Int)]
 (T.need [(0 : Int) ≤ (↑(UInt8.toNat (List.getD t (Int.toNat i) (0 : UInt8))) : Int) ∧ (↑(UInt8.toNat (List.getD t (Int.toNat i) (0 : UInt8))) : Int) < (256 : Int)]
 (T.need
 [[V.lit (Value.slice none 0 0), V.lit (Value.slice none 0 0), V.lit (Value.slice none 0 0), V.lit (Value.slice none 0 0),
 V.lit (Value.slice none 0 0), V.lit (Value.slice none 0 0), V.lit (Value.slice none 0 0), V.lit (Value.slice none 0 0),
 V.lit (Value.slice none 0 0), V.lit (Value.slice none 0 0), V.lit (Value.slice none 0 0), V.lit (Value.slice none 0 0),
 V.lit (Value.slice none 0 0), V.lit (Value.slice none 0 0), V.lit (Value.slice none 0 0), V.lit (Value.slice none 0 0),
 V.lit (Value.slice none 0 0), V.lit (Value.slice none 0 0), V.lit (Value.slice none 0 0), V.lit (Value.slice none 0 0),
 V.lit (Value.slice none 0 0), V.lit (Value.slice none 0 0), V.lit (Value.slice none 0 0), V.lit (Value.slice none 0 0),
 V.lit (Value.slice none 0 0), V.lit (Value.slice none 0 0), V.lit (Value.slice none 0 0), V.lit (Value.slice none 0 0),
 V.lit (Value.slice none 0 0), V.lit (Value.slice none 0 0), V.lit (Value.slice none 0 0), V.lit (Value.slice none 0 0),
 V.lit (Value.slice none 0 0), V.lit (Value.slice none 0 0), V.sl 1 0 2 false, V.lit (Value.slice none 0 0),
 V.lit (Value.slice none 0 0), V.lit (Value.slice none 0 0), V.lit (Value.slice none 0 0), V.lit (Value.slice none 0 0),
 V.lit (Value.slice none 0 0), V.lit (Value.slice none 0 0), V.lit (Value.slice none 0 0), V.lit (Value.slice none 0 0),
 V.lit (Value.slice none 0 0), V.lit (Value.slice none 0 0), V.lit (Value.slice none 0 0), V.lit (Value.slice none 0 0),
 V.lit (Value.slice none 0 0), V.lit (Value.slice none 0 0), V.lit (Value.slice none 0 0), V.lit (Value.slice none 0 0),
 V.lit (Value.slice none 0 0), V.lit (Value.slice none 0 0), V.lit (Value.slice none 0 0), V.lit (Value.slice none 0 0),
 V.lit (Value.slice none 0 0), V.lit (Value.slice none 0 0), V.lit (Value.slice none 0 0), V.lit (Value.slice none 0 0),
 V.lit (Value.slice none 0 0), V.lit (Value.slice none 0 0), V.lit (Value.slice none 0 0), V.lit (Value.slice none 0 0),
 V.lit (Value.slice none 0 0), V.lit (Value.slice none 0 0), V.lit (Value.slice none 0 0), V.lit (Value.slice none 0 0),
 V.lit (Value.slice none 0 0), V.lit (Value.slice none 0 0), V.lit (Value.slice none 0 0), V.lit (Value.slice none 0 0),
 V.lit (Value.slice none 0 0), V.lit (Value.slice none 0 0), V.lit (Value.slice none 0 0), V.lit (Value.slice none 0 0),
 V.lit (Value.slice none 0 0), V.lit (Value.slice none 0 0), V.lit (Value.slice none 0 0), V.lit (Value.slice none 0 0),
 V.lit (Value.slice none 0 0), V.lit (Value.slice none 0 0), V.lit (Value.slice none 0 0), V.lit (Value.slice none 0 0),
 V.lit (Value.slice none 0 0), V.lit (Value.slice none 0 0), V.lit (Value.slice none 0 0), V.lit (Value.slice none 0 0),
 V.lit (Value.slice none 0 0), V.lit (Value.slice none 0 0), V.lit (Value.slice none 0 0), V.lit (Value.slice none 0 0),
 V.sl 2 0 2 false, V.lit (Value.slice none 0 0), V.lit (Value.slice none 0 0), V.lit (Value.slice none 0 0),
 V.lit (Value.slice none 0 0), V.lit (Value.slice none 0 0), V.lit (Value.slice none 0 0), V.lit (Value.slice none 0 0),
 V.lit (Value.slice none 0 0), V.lit (Value.slice none 0 0), V.lit (Value.slice none 0 0), V.lit (Value.slice none 0 0),
 V.lit (Value.slice none 0 0), V.lit (Value.slice none 0 0), V.lit (Value.slice none 0 0), V.lit (Value.slice none 0 0),
 V.lit (Value.slice none 0 0), V.lit (Value.slice none 0 0), V.lit (Value.slice none 0 0), V.lit (Value.slice none 0 0),
 V.lit (Value.slice none 0 0), V.lit (Value.slice none 0 0), V.lit (Value.slice none 0 0), V.lit (Value.slice none 0 0),
 V.lit (Value.slice none 0 0), V.lit (Value.slice none 0 0), V.lit (Value.slice none 0 0), V.lit (Value.slice none 0 0),
 V.lit (Value.slice none 0 0), V.lit (Value.slice none 0 0), V.lit (Value.slice none 0 0), V.lit (Value.slice none 0 0),
 V.lit (Value.slice none 0 0), V.lit (Value.slice none 0 0), V.lit (Value.slice none 0 0), V.lit (Value.slice none 0 0),
 V.lit (Value.slice none 0 0), V.lit (Value.slice none 0 0), V.lit (Value.slice none 0 0), V.lit (Value.slice none 0 0),
 V.lit (Value.slice none 0 0), V.lit (Value.slice none 0 0), V.lit (Value.slice none 0 0), V.lit (Value.slice none 0 0),
 V.lit (Value.slice none 0 0), V.lit (Value.slice none 0 0), V.lit (Value.slice none 0 0), V.lit (Value.slice none 0 0),
 V.lit (Value.slice none 0 0), V.lit (Value.slice none 0 0), V.lit (Value.slice none 0 0), V.lit (Value.slice none 0 0),
 V.lit (Value.slice none 0 0), V.lit (Value.slice none 0 0), V.lit (Value.slice none 0 0), V.lit (Value.slice none 0 0),
 V.lit (Value.slice none 0 0), V.lit (Value.slice none 0 0), V.lit (Value.slice none 0 0), V.lit (Value.slice none 0 0),
 V.lit (Value.slice none 0 0), V.lit (Value.slice none 0 0), V.lit (Value.slice none 0 0), V.lit (Value.slice none 0 0),
 V.lit (Value.slice none 0 0), V.lit (Value.slice none 0 0), V.lit (Value.slice none 0 0), V.lit (Value.slice none 0 0),
 V.lit (Value.slice none 0 0), V.lit (Value.slice none 0 0), V.lit (Value.slice none 0 0), V.lit (Value.slice none 0 0),
 V.lit (Value.slice none 0 0), V.lit (Value.slice none 0 0), V.lit (Value.slice none 0 0), V.lit (Value.slice none 0 0),
 V.lit (Value.slice none 0 0), V.lit (Value.slice none 0 0), V.lit (Value.slice none 0 0), V.lit (Value.slice none 0 0),
 V.lit (Value.slice none 0 0), V.lit (Value.slice none 0 0), V.lit (Value.slice none 0 0), V.lit (Value.slice none 0 0),
 V.lit (Value.slice none 0 0), V.lit (Value.slice none 0 0), V.lit (Value.slice none 0 0), V.lit (Value.slice none 0 0),
 V.lit (Value.slice none 0 0), V.lit (Value.slice none 0 0), V.lit (Value.slice none 0 0), V.lit (Value.slice none 0 0),
 V.lit (Value.slice none 0 0), V.lit (Value.slice none 0 0), V.lit (Value.slice none 0 0), V.lit (Value.slice none 0 0),
 V.lit (Value.slice none 0 0), V.lit (Value.slice none 0 0), V.lit (Value.slice none 0 0), V.lit (Value.slice none 0 0),
 V.lit (Value.slice none 0 0), V.lit (Value.slice none 0 0), V.lit (Value.slice none 0 0), V.lit (Value.slice none 0 0),
 V.lit (Value.slice none 0 0), V.lit (Value.slice none 0 0), V.lit (Value.slice none 0 0), V.lit (Value.slice none 0 0),
 V.lit (Value.slice none 0 0), V.lit (Value.slice none 0 0), V.lit (Value.slice none 0 0), V.lit (Value.slice none 0 0),
 V.lit (Value.slice none 0 0), V.lit (Value.slice none 0 0), V.lit (Value.slice none 0 0), V.lit (Value.slice none 0 0),
 V.lit (Value.slice none 0 0), V.lit (Value.slice none 0 0), V.lit (Value.slice none 0 0), V.lit (Value.slice none 0 0),
 V.lit (Value.slice none 0 0), V.lit (Value.slice none 0 0), V.lit (Value.slice none 0 0), V.lit (Value.slice none 0 0),
 V.lit (Value.slice none 0 0), V.lit (Value.slice none 0 0), V.lit (Value.slice none 0 0), V.lit (Value.slice none 0 0),
 V.lit (Value.slice none 0 0), V.lit (Value.slice none 0 0), V.lit (Value.slice none 0 0), V.lit (Value.slice none 0 0),
 V.lit (Value.slice none 0 0), V.lit (Value.slice none 0 0), V.lit (Value.slice none 0 0), V.lit (Value.slice none 0 0),
 V.lit (Value.slice none 0 0), V.lit (Value.slice none 0 0), V.lit (Value.slice none 0 0), V.lit (Value.slice none 0 0),
 V.lit (Value.slice none 0 0), V.lit (Value.slice none 0 0), V.lit (Value.slice none 0 0), V.lit (Value.slice none 0 0),
 V.lit (Value.slice none 0 0), V.lit (Value.slice none 0 0), V.lit (Value.slice none 0 0), V.lit (Value.slice none 0 0),
 V.lit (Value.slice none 0 0), V.lit (Value.slice none 0 0), V.lit (Value.slice none 0 0), V.lit (Value.slice none 0 0),
 V.lit (Value.slice none 0 0), V.lit (Value.slice none 0 0), V.lit (Value.slice none 0 0), V.lit (Value.slice none 0 0),
 V.lit (Value.slice none 0 0), V.lit (Value.slice none 0 0), V.lit (Value.slice none 0 0), V.lit (Value.slice none 0 0),
 V.lit (Value.slice none 0 0), V.lit (Value.slice none 0 0), V.lit (Value.slice none 0 0), V.lit (Value.slice none 0 0),
 V.sl 3 0 2 false][0 + Int.toNat (↑(UInt8.toNat (List.getD t (Int.toNat i) (0 : UInt8))) : Int) * 1]? =
 some (V.sl 1 0 2 false)]
 (T.need [(0 : Int) ≤ (↑(UInt8.toNat (List.getD t (Int.toNat i) (0 : UInt8))) : Int) ∧ (↑(UInt8.toNat (List.getD t (Int.toNat i) (0 : UInt8))) : Int) < (256 : Int)]
 (T.need
 [[V.lit (Value.slice none 0 0), V.lit (Value.slice none 0 0), V.lit (Value.slice none 0 0), V.lit (Value.slice none 0 0),
 V.lit (Value.slice none 0 0), V.lit (Value.slice none 0 0), V.lit (Value.slice none 0 0), V.lit (Value.slice none 0 0),
 V.lit (Value.slice none 0 0), V.lit (Value.slice none 0 0), V.lit (Value.slice none 0 0), V.lit (Value.slice none 0 0),
 V.lit (Value.slice none 0 0), V.lit (Value.slice none 0 0), V.lit (Value.slice none 0 0), V.lit (Value.slice none 0 0),
 V.lit (Value.slice none 0 0), V.lit (Value.slice none 0 0), V.lit (Value.slice none 0 0), V.lit (Value.slice none 0 0),
 V.lit (Value.slice none 0 0), V.lit (Value.slice none 0 0), V.lit (Value.slice none 0 0), V.lit (Value.slice none 0 0),
 V.lit (Value.slice none 0 0), V.lit (Value.slice none 0 0), V.lit (Value.slice none 0 0), V.lit (Value.slice none 0 0),
 V.lit (Value.slice none 0 0), V.lit (Value.slice none 0 0), V.lit (Value.slice none 0 0), V.lit (Value.slice none 0 0),
 V.lit (Value.slice none 0 0), V.lit (Value.slice none 0 0), V.sl 1 0 2 false, V.lit (Value.slice none 0 0),
 V.lit (Value.slice none 0 0), V.lit (Value.slice none 0 0), V.lit (Value.slice none 0 0), V.lit (Value.slice none 0 0),
 V.lit (Value.slice none 0 0), V.lit (Value.slice none 0 0), V.lit (Value.slice none 0 0), V.lit (Value.slice none 0 0),
 V.lit (Value.slice none 0 0), V.lit (Value.slice none 0 0), V.lit (Value.slice none 0 0), V.lit (Value.slice none 0 0),
 V.lit (Value.slice none 0 0), V.lit (Value.slice none 0 0), V.lit (Value.slice none 0 0), V.lit (Value.slice none 0 0),
 V.lit (Value.slice none 0 0), V.lit (Value.slice none 0 0), V.lit (Value.slice none 0 0), V.lit (Value.slice none 0 0),
 V.lit (Value.slice none 0 0), V.lit (Value.slice none 0 0), V.lit (Value.slice none 0 0), V.lit (Value.slice none 0 0),
 V.lit (Value.slice none 0 0), V.lit (Value.slice none 0 0), V.lit (Value.slice none 0 0), V.lit (Value.slice none 0 0),
 V.lit (Value.slice none 0 0), V.lit (Value.slice none 0 0), V.lit (Value.slice none 0 0), V.lit (Value.slice none 0 0),
 V.lit (Value.slice none 0 0), V.lit (Value.slice none 0 0), V.lit (Value.slice none 0 0), V.lit (Value.slice none 0 0),
 V.lit (Value.slice none 0 0), V.lit (Value.slice none 0 0), V.lit (Value.slice none 0 0), V.lit (Value.slice none 0 0),
 V.lit (Value.slice none 0 0), V.lit (Value.slice none 0 0), V.lit (Value.slice none 0 0), V.lit (Value.slice none 0 0),
 V.lit (Value.slice none 0 0), V.lit (Value.slice none 0 0), V.lit (Value.slice none 0 0), V.lit (Value.slice none 0 0),
 V.lit (Value.slice none 0 0), V.lit (Value.slice none 0 0), V.lit (Value.slice none 0 0), V.lit (Value.slice none 0 0),
 V.lit (Value.slice none 0 0), V.lit (Value.slice none 0 0), V.lit (Value.slice none 0 0), V.lit (Value.slice none 0 0),
 V.sl 2 0 2 false, V.lit (Value.slice none 0 0), V.lit (Value.slice none 0 0), V.lit (Value.slice none 0 0),
 V.lit (Value.slice none 0 0), V.lit (Value.slice none 0 0), V.lit (Value.slice none 0 0), V.lit (Value.slice none 0 0),
 V.lit (Value.slice none 0 0), V.lit (Value.slice none 0 0), V.lit (Value.slice none 0 0), V.lit (Value.slice none 0 0),
 V.lit (Value.slice none 0 0), V.lit (Value.slice none 0 0), V.lit (Value.slice none 0 0), V.lit (Value.slice none 0 0),
 V.lit (Value.slice none 0 0), V.lit (Value.slice none 0 0), V.lit (Value.slice none 0 0), V.lit (Value.slice none 0 0),
 V.lit (Value.slice none 0 0), V.lit (Value.slice none 0 0), V.lit (Value.slice none 0 0), V.lit (Value.slice none 0 0),
 V.lit (Value.slice none 0 0), V.lit (Value.slice none 0 0), V.lit (Value.slice none 0 0), V.lit (Value.slice none 0 0),
 V.lit (Value.slice none 0 0), V.lit (Value.slice none 0 0), V.lit (Value.slice none 0 0), V.lit (Value.slice none 0 0),
 V.lit (Value.slice none 0 0), V.lit (Value.slice none 0 0), V.lit (Value.slice none 0 0), V.lit (Value.slice none 0 0),
 V.lit (Value.slice none 0 0), V.lit (Value.slice none 0 0), V.lit (Value.slice none 0 0), V.lit (Value.slice none 0 0),
 V.lit (Value.slice none 0 0), V.lit (Value.slice none 0 0), V.lit (Value.slice none 0 0), V.lit (Value.slice none 0 0),
 V.lit (Value.slice none 0 0), V.lit (Value.slice none 0 0), V.lit (Value.slice none 0 0), V.lit (Value.slice none 0 0),
 V.lit (Value.slice none 0 0), V.lit (Value.slice none 0 0), V.lit (Value.slice none 0 0), V.lit (Value.slice none 0 0),
 V.lit (Value.slice none 0 0), V.lit (Value.slice none 0 0), V.lit (Value.slice none 0 0), V.lit (Value.slice none 0 0),
 V.lit (Value.slice none 0 0), V.lit (Value.slice none 0 0), V.lit (Value.slice none 0 0), V.lit (Value.slice none 0 0),
 V.lit (Value.slice none 0 0), V.lit (Value.slice none 0 0), V.lit (Value.slice none 0 0), V.lit (Value.slice none 0 0),
 V.lit (Value.slice none 0 0), V.lit (Value.slice none 0 0), V.lit (Value.slice none 0 0), V.lit (Value.slice none 0 0),
 V.lit (Value.slice none 0 0), V.lit (Value.slice none 0 0), V.lit (Value.slice none 0 0), V.lit (Value.slice none 0 0),
 V.lit (Value.slice none 0 0), V.lit (Value.slice none 0 0), V.lit (Value.slice none 0 0), V.lit (Value.slice none 0 0),
 V.lit (Value.slice none 0 0), V.lit (Value.slice none 0 0), V.lit (Value.slice none 0 0), V.lit (Value.slice none 0 0),
 V.lit (Value.slice none 0 0), V.lit (Value.slice none 0 0), V.lit (Value.slice none 0 0), V.lit (Value.slice none 0 0),
 V.lit (Value.slice none 0 0), V.lit (Value.slice none 0 0), V.lit (Value.slice none 0 0), V.lit (Value.slice none 0 0),
 V.lit (Value.slice none 0 0), V.lit (Value.slice none 0 0), V.lit (Value.slice none 0 0), V.lit (Value.slice none 0 0),
 V.lit (Value.slice none 0 0), V.lit (Value.slice none 0 0), V.lit (Value.slice none 0 0), V.lit (Value.slice none 0 0),
 V.lit (Value.slice none 0 0), V.lit (Value.slice none 0 0), V.lit (Value.slice none 0 0), V.lit (Value.slice none 0 0),
 V.lit (Value.slice none 0 0), V.lit (Value.slice none 0 0), V.lit (Value.slice none 0 0), V.lit (Value.slice none 0 0),
 V.lit (Value.slice none 0 0), V.lit (Value.slice none 0 0), V.lit (Value.slice none 0 0), V.lit (Value.slice none 0 0),
 V.lit (Value.slice none 0 0), V.lit (Value.slice none 0 0), V.lit (Value.slice none 0 0), V.lit (Value.slice none 0 0),
 V.lit (Value.slice none 0 0), V.lit (Value.slice none 0 0), V.lit (Value.slice none 0 0), V.lit (Value.slice none 0 0),
 V.lit (Value.slice none 0 0), V.lit (Value.slice none 0 0), V.lit (Value.slice none 0 0), V.lit (Value.slice none 0 0),
 V.lit (Value.slice none 0 0), V.lit (Value.slice none 0 0), V.lit (Value.slice none 0 0), V.lit (Value.slice none 0 0),
 V.lit (Value.slice none 0 0), V.lit (Value.slice none 0 0), V.lit (Value.slice none 0 0), V.lit (Value.slice none 0 0),
 V.lit (Value.slice none 0 0), V.lit (Value.slice none 0 0), V.lit (Value.slice none 0 0), V.lit (Value.slice none 0 0),
 V.lit (Value.slice none 0 0), V.lit (Value.slice none 0 0), V.lit (Value.slice none 0 0), V.lit (Value.slice none 0 0),
 V.lit (Value.slice none 0 0), V.lit (Value.slice none 0 0), V.lit (Value.slice none 0 0), V.lit (Value.slice none 0 0),
 V.lit (Value.slice none 0 0), V.lit (Value.slice none 0 0), V.lit (Value.slice none 0 0), V.lit (Value.slice none 0 0),
 V.lit (Value.slice none 0 0), V.lit (Value.slice none 0 0), V.lit (Value.slice none 0 0), V.lit (Value.slice none 0 0),
 V.lit (Value.slice none 0 0), V.lit (Value.slice none 0 0), V.lit (Value.slice none 0 0), V.lit (Value.slice none 0 0),
 V.lit (Value.slice none 0 0), V.lit (Value.slice none 0 0), V.lit (Value.slice none 0 0), V.lit (Value.slice none 0 0),
 V.lit (Value.slice none 0 0), V.lit (Value.slice none 0 0), V.lit (Value.slice none 0 0), V.lit (Value.slice none 0 0),
 V.lit (Value.slice none 0 0), V.lit (Value.slice none 0 0), V.lit (Value.slice none 0 0), V.lit (Value.slice none 0 0),
 V.sl 3 0 2 false][0 + Int.toNat (↑(UInt8.toNat (List.getD t (Int.toNat i) (0 : UInt8))) : Int) * 1]? =
 some (V.sl 1 0 2 false)]
 (T.done
 (Ex.normal,
 St.mk
 (mkTm 122
 [(0, V.ptr 0 0), (1, V.str t), (5, V.int IntKind.i64 (IntKind.wrap IntKind.i64 (n + (1 : Int)))), (6, V.bool true),
 (10, V.int IntKind.i64 (IntKind.wrap IntKind.i64 (i + (1 : Int))))])
 [(repB 1),
 some ([V.sld [V.int IntKind.u8 (92 : Int), V.int IntKind.u8 (34 : Int)]], 5), some ([V.sld [V.int IntKind.u8 (92 : Int), V.int IntKind.u8 (92 : Int)]], 5),
 some ([V.str [92], V.str [34]], 9)]
 []))))))
 else
 T.done
 (Ex.exit 2,
 St.mk (mkTm 122 [(0, V.ptr 0 0), (1, V.str t), (5, V.int IntKind.i64 n), (6, V.bool b)])
 [(repB 1),
 some ([V.sld [V.int IntKind.u8 (92 : Int), V.int IntKind.u8 (34 : Int)]], 5), some ([V.sld [V.int IntKind.u8 (92 : Int), V.int IntKind.u8 (92 : Int)]], 5),
 some ([V.str [92], V.str [34]], 9)]
 []) := by kernel_rfl
set_option maxRecDepth 100000 in
theorem cntC92 (t : List UInt8) (i n : Int) (b : Bool) : bodyT (E116 (fun _ => 0) (.sl 2 0 2 false)) 4 nfC (lp Tryz.prog fByteRep 2) (stC t i n b) =
 bif decide (i < (↑(List.length t) : Int)) then
 T.need [(0 : Int) ≤ i ∧ i < (↑(List.length t) : Int)]
 (T.need [(0 : Int) ≤ (↑(UInt8.toNat (List.getD t (Int.toNat i) (0 : UInt8))) : Int) ∧ (↑(UInt8.toNat (List.getD t (Int.toNat i) (0 : UInt8))) : Int) < (256 : Int)]
 (T.need
 [[V.lit (Value.slice none 0 0), V.lit (Value.slice none 0 0), V.lit (Value.slice none 0 0), V.lit (Value.slice none 0 0),
 V.lit (Value.slice none 0 0), V.lit (Value.slice none 0 0), V.lit (Value.slice none 0 0), V.lit (Value.slice none 0 0),
 V.lit (Value.slice none 0 0), V.lit (Value.slice none 0 0), V.lit (Value.slice none 0 0), V.lit (Value.slice none 0 0),
 V.lit (Value.slice none 0 0), V.lit (Value.slice none 0 0), V.lit (Value.slice none 0 0), V.lit (Value.slice none 0 0),
 V.lit (Value.slice none 0 0), V.lit (Value.slice none 0 0), V.lit (Value.slice none 0 0), V.lit (Value.slice none 0 0),
 V.lit (Value.slice none 0 0), V.lit (Value.slice none 0 0), V.lit (Value.slice none 0 0), V.lit (Value.slice none 0 0),
 V.lit (Value.slice none 0 0), V.lit (Value.slice none 0 0), V.lit (Value.slice none 0 0), V.lit (Value.slice none 0 0),
 V.lit (Value.slice none 0 0), V.lit (Value.slice none 0 0), V.lit (Value.slice none 0 0), V.lit (Value.slice none 0 0),
 V.lit (Value.slice none 0 0), V.lit (Value.slice none 0 0), V.sl 1 0 2 false, V.lit (Value.slice none 0 0),
 V.lit (Value.slice none 0 0), V.lit (Value.slice none 0 0), V.lit (Value.slice none 0 0), V.lit (Value.slice none 0 0),
 V.lit (Value.slice none 0 0), V.lit (Value.slice none 0 0), V.lit (Value.slice none 0 0), V.lit (Value.slice none 0 0),
 V.lit (Value.slice none 0 0), V.lit (Value.slice none 0 0), V.lit (Value.slice none 0 0), V.lit (Value.slice none 0 0),
 V.lit (Value.slice none 0 0), V.lit (Value.slice none 0 0), V.lit (Value.slice none 0 0), V.lit (Value.slice none 0 0),
 V.lit (Value.slice none 0 0), V.lit (Value.slice none 0 0), V.lit (Value.slice none 0 0), V.lit (Value.slice none 0 0),
 V.lit (Value.slice none 0 0), V.lit (Value.slice none 0 0), V.lit (Value.slice none 0 0), V.lit (Value.slice none 0 0),
 V.lit (Value.slice none 0 0), V.lit (Value.slice none 0 0), V.lit (Value.slice none 0 0), V.lit (Value.slice none 0 0),
 V.lit (Value.slice none 0 0), V.lit (Value.slice none 0 0), V.lit (Value.slice none 0 0), V.lit (Value.slice none 0 0),
 V.lit (Value.slice none 0 0), V.lit (Value.slice none 0 0), V.lit (Value.slice none 0 0), V.lit (Value.slice none 0 0),
 V.lit (Value.slice none 0 0), V.lit (Value.slice none 0 0), V.lit (Value.slice none 0 0), V.lit (Value.slice none 0 0),
 V.lit (Value.slice none 0 0), V.lit (Value.slice none 0 0), V.lit (Value.slice none 0 0), V.lit (Value.slice none 0 0),
 V.lit (Value.slice none 0 0), V.lit (Value.slice none 0 0), V.lit (Value.slice none 0 0), V.lit (Value.slice none 0 0),
 V.lit (Value.slice none 0 0), V.lit (Value.slice none 0 0), V.lit (Value.slice none 0 0), V.lit (Value.slice none 0 0),
 V.lit (Value.slice none 0 0), V.lit (Value.slice none 0 0), V.lit (Value.slice none 0 0), V.lit (Value.slice none 0 0),
 V.sl 2 0 2 false, V.lit (Value.slice none 0 0), V.lit (Value.slice none 0 0), V.lit (Value.slice none 0 0),
 V.lit (Value.slice none 0 0), V.lit (Value.slice none 0 0), V.lit (Value.slice none 0 0), V.lit (Value.slice none 0 0),
 V.lit (Value.slice none 0 0), V.lit (Value.slice none 0 0), V.lit (Value.slice none 0 0), V.lit (Value.slice none 0 0),
 V.lit (Value.slice none 0 0), V.lit (Value.slice none 0 0), V.lit (Value.slice none 0 0), V.lit (Value.slice none 0 0),
 V.lit (Value.slice none 0 0), V.lit (Value.slice none 0 0), V.lit (Value.slice none 0 0), V.lit (Value.slice none 0 0),
 V.lit (Value.slice none 0 0), V.lit (Value.slice none 0 0), V.lit (Value.slice none 0 0), V.lit (Value.slice none 0 0),
 V.lit (Value.slice none 0 0), V.lit (Value.slice none 0 0), V.lit (Value.slice none 0 0), V.lit (Value.slice none 0 0),
 V.lit (Value.slice none 0 0), V.lit (Value.slice none 0 0), V.lit (Value.slice none 0 0), V.lit (Value.slice none 0 0),
 V.lit (Value.slice none 0 0), V.lit (Value.slice none 0 0), V.lit (Value.slice none 0 0), V.lit (Value.slice none 0 0),
 V.lit (Value.slice none 0 0), V.lit (Value.slice none 0 0), V.lit (Value.slice none 0 0), V.lit (Value.slice none 0 0),
 V.lit (Value.slice none 0 0), V.lit (Value.slice none 0 0), V.lit (Value.slice none 0 0), V.lit (Value.slice none 0 0),
 V.lit (Value.slice none 0 0), V.lit (Value.slice none 0 0), V.lit (Value.slice none 0 0), V.lit (Value.slice none 0 0),
 V.lit (Value.slice none 0 0), V.lit (Value.slice none 0 0), V.lit (Value.slice none 0 0), V.lit (Value.slice none 0 0),
 V.lit (Value.slice none 0 0), V.lit (Value.slice none 0 0), V.lit (Value.slice none 0 0), V.lit (Value.slice none 0 0),
 V.lit (Value.slice none 0 0), V.lit (Value.slice none 0 0), V.lit (Value.slice none 0 0), V.lit (Value.slice none 0 0),
 V.lit (Value.slice none 0 0), V.lit (Value.slice none 0 0), V.lit (Value.slice none 0 0), V.lit (Value.slice none 0 0),
 V.lit (Value.slice none 0 0), V.lit (Value.slice none 0 0), V.lit (Value.slice none 0 0), V.lit (Value.slice none 0 0),
 V.lit (Value.slice none 0 0), V.lit (Value.slice none 0 0), V.lit (Value.slice none 0 0), V.lit (Value.slice none 0 0),
 V.lit (Value.slice none 0 0), V.lit (Value.slice none 0 0), V.lit (Value.slice none 0 0), V.lit (Value.slice none 0 0),
 V.lit (Value.slice none 0 0), V.lit (Value.slice none 0 0), V.lit (Value.slice none 0 0), V.lit (Value.slice none 0 0),
 V.lit (Value.slice none 0 0), V.lit (Value.slice none 0 0), V.lit (Value.slice none 0 0), V.lit (Value.slice none 0 0),
 V.lit (Value.slice none 0 0), V.lit (Value.slice none 0 0), V.lit (Value.slice none 0 0), V.lit (Value.slice none 0 0),
 V.lit (Value.slice none 0 0), V.lit (Value.slice none 0 0), V.lit (Value.slice none 0 0), V.lit (Value.slice none 0 0),
 V.lit (Value.slice none 0 0), V.lit (Value.slice none 0 0), V.lit (Value.slice none 0 0), V.lit (Value.slice none 0 0),
 V.lit (Value.slice none 0 0), V.lit (Value.slice none 0 0), V.lit (Value.slice none 0 0), V.lit (Value.slice none 0 0),
 V.lit (Value.slice none 0 0), V.lit (Value.slice none 0 0), V.lit (Value.slice none 0 0), V.lit (Value.slice none 0 0),
 V.lit (Value.slice none 0 0), V.lit (Value.slice none 0 0), V.lit (Value.slice none 0 0), V.lit (Value.slice none 0 0),
 V.lit (Value.slice none 0 0), V.lit (Value.slice none 0 0), V.lit (Value.slice none 0 0), V.lit (Value.slice none 0 0),
 V.lit (Value.slice none 0 0), V.lit (Value.slice none 0 0), V.lit (Value.slice none 0 0), V.lit (Value.slice none 0 0),
 V.lit (Value.slice none 0 0), V.lit (Value.slice none 0 0), V.lit (Value.slice none 0 0), V.lit (Value.slice none 0 0),
 V.lit (Value.slice none 0 0), V.lit (Value.slice none 0 0), V.lit (Value.slice none 0 0), V.lit (Value.slice none 0 0),
 V.lit (Value.slice none 0 0), V.lit (Value.slice none 0 0), V.lit (Value.slice none 0 0), V.lit (Value.slice none 0 0),
 V.lit (Value.slice none 0 0), V.lit (Value.slice none 0 0), V.lit (Value.slice none 0 0), V.lit (Value.slice none 0 0),
 V.lit (Value.slice none 0 0), V.lit (Value.slice none 0 0), V.lit (Value.slice none 0 0), V.lit (Value.slice none 0 0),
 V.lit (Value.slice none 0 0), V.lit (Value.slice none 0 0), V.lit (Value.slice none 0 0), V.lit (Value.slice none 0 0),
 V.lit (Value.slice none 0 0), V.lit (Value.slice none 0 0), V.lit (Value.slice none 0 0), V.lit (Value.slice none 0 0),
 V.lit (Value.slice none 0 0), V.lit (Value.slice none 0 0), V.lit (Value.slice none 0 0), V.lit (Value.slice none 0 0),
 V.lit (Value.slice none 0 0), V.lit (Value.slice none 0 0), V.lit (Value.slice none 0 0), V.lit (Value.slice none 0 0),
 V.lit (Value.slice none 0 0), V.lit (Value.slice none 0 0), V.lit (Value.slice none 0 0), V.lit (Value.slice none 0 0),
 V.lit (Value.slice none 0 0), V.lit (Value.slice none 0 0), V.lit (Value.slice none 0 0), V.lit (Value.slice none 0 0),
 V.lit (Value.slice none 0 0), V.lit (Value.slice none 0 0), V.lit (Value.slice none 0 0), V.lit (Value.slice none 0 0),
 V.sl 3 0 2 false][0 + Int.toNat (↑(UInt8.toNat (List.getD t (Int.toNat i) (0 : UInt8))) : Int) * 1]? =
 some (V.sl 2 0 2 false)]
 (T.need [(0 : Int) ≤ (↑(UInt8.toNat (List.getD t (Int.toNat i) (0 : UInt8))) : Int) ∧ (↑(UInt8.toNat (List.getD t (Int.toNat i) (0 : UInt8))) : Int) < (256 : Int)]
 (T.need
 [[V.lit (Value.slice none 0 0), V.lit (Value.slice none 0 0), V.lit (Value.slice none 0 0), V.lit (Value.slice none 0 0),
 V.lit (Value.slice none 0 0), V.lit (Value.slice none 0 0), V.lit (Value.slice none 0 0), V.lit (Value.slice none 0 0),
 V.lit (Value.slice none 0 0), V.lit (Value.slice none 0 0), V.lit (Value.slice none 0 0), V.lit (Value.slice none 0 0),
 V.lit (Value.slice none 0 0), V.lit (Value.slice none 0 0), V.lit (Value.slice none 0 0), V.lit (Value.slice none 0 0),
 V.lit (Value.slice none 0 0), V.lit (Value.slice none 0 0), V.lit (Value.slice none 0 0), V.lit (Value.slice none 0 0),
 V.lit (Value.slice none 0 0), V.lit (Value.slice none 0 0), V.lit (Value.slice none 0 0), V.lit (Value.slice none 0 0),
 V.lit (Value.slice none 0 0), V.lit (Value.slice none 0 0), V.lit (Value.slice none 0 0), V.lit (Value.slice none 0 0),
 V.lit (Value.slice none 0 0), V.lit (Value.slice none 0 0), V.lit (Value.slice none 0 0), V.lit (Value.slice none 0 0),
 V.lit (Value.slice none 0 0), V.lit (Value.slice none 0 0), V.sl 1 0 2 false, V.lit (Value.slice none 0 0),
 V.lit (Value.slice none 0 0), V.lit (Value.slice none 0 0), V.lit (Value.slice none 0 0), V.lit (Value.slice none 0 0),
 V.lit (Value.slice none 0 0), V.lit (Value.slice none 0 0), V.lit (Value.slice none 0 0), V.lit (Value.slice none 0 0),
 V.lit (Value.slice none 0 0), V.lit (Value.slice none 0 0), V.lit (Value.slice none 0 0), V.lit (Value.slice none 0 0),
 V.lit (Value.slice none 0 0), V.lit (Value.slice none 0 0), V.lit (Value.slice none 0 0), V.lit (Value.slice none 0 0),
 V.lit (Value.slice none 0 0), V.lit (Value.slice none 0 0), V.lit (Value.slice none 0 0), V.lit (Value.slice none 0 0),
 V.lit (Value.slice none 0 0), V.lit (Value.slice none 0 0), V.lit (Value.slice none 0 0), V.lit (Value.slice none 0 0),
 V.lit (Value.slice none 0 0), V.lit (Value.slice none 0 0), V.lit (Value.slice none 0 0), V.lit (Value.slice none 0 0),
 V.lit (Value.slice none 0 0), V.lit (Value.slice none 0 0), V.lit (Value.slice none 0 0), V.lit (Value.slice none 0 0),
 V.lit (Value.slice none 0 0), V.lit (Value.slice none 0 0), V.lit (Value.slice none 0 0), V.lit (Value.slice none 0 0),
 V.lit (Value.slice none 0 0), V.lit (Value.slice none 0 0), V.lit (Value.slice none 0 0), V.lit (Value.slice none 0 0),
 V.lit (Value.slice none 0 0), V.lit (Value.slice none 0 0), V.lit (Value.slice none 0 0), V.lit (Value.slice none 0 0),
 V.lit (Value.slice none 0 0), V.lit (Value.slice none 0 0), V.lit (Value.slice none 0 0), V.lit (Value.slice none 0 0),
 V.lit (Value.slice none 0 0), V.lit (Value.slice none 0 0), V.lit (Value.slice none 0 0), V.lit (Value.slice none 0 0),
 V.lit (Value.slice none 0 0), V.lit (Value.slice none 0 0), V.lit (Value.slice none 0 0), V.lit (Value.slice none 0 0),
 V.sl 2 0 2 false, V.lit (Value.slice none 0 0), V.lit (Value.slice none 0 0), V.lit (Value.slice none 0 0),
 V.lit (Value.slice none 0 0), V.lit (Value.slice none 0 0), V.lit (Value.slice none 0 0), V.lit (Value.slice none 0 0),
 V.lit (Value.slice none 0 0), V.lit (Value.slice none 0 0), V.lit (Value.slice none 0 0), V.lit (Value.slice none 0 0),
 V.lit (Value.slice none 0 0), V.lit (Value.slice none 0 0), V.lit (Value.slice none 0 0), V.lit (Value.slice none 0 0),
 V.lit (Value.slice none 0 0), V.lit (Value.slice none 0 0), V.lit (Value.slice none 0 0), V.lit (Value.slice none 0 0),
 V.lit (Value.slice none 0 0), V.lit (Value.slice none 0 0), V.lit (Value.slice none 0 0), V.lit (Value.slice none 0 0),
 V.lit (Value.slice none 0 0), V.lit (Value.slice none 0 0), V.lit (Value.slice none 0 0), V.lit (Value.slice none 0 0),
 V.lit (Value.slice none 0 0), V.lit (Value.slice none 0 0), V.lit (Value.slice none 0 0), V.lit (Value.slice none 0 0),
 V.lit (Value.slice none 0 0), V.lit (Value.slice none 0 0), V.lit (Value.slice none 0 0), V.lit (Value.slice none 0 0),
 V.lit (Value.slice none 0 0), V.lit (Value.slice none 0 0), V.lit (Value.slice none 0 0), V.lit (Value.slice none 0 0),
 V.lit (Value.slice none 0 0), V.lit (Value.slice none 0 0), V.lit (Value.slice none 0 0), V.lit (Value.slice none 0 0),
 V.lit (Value.slice none 0 0), V.lit (Value.slice none 0 0), V.lit (Value.slice none 0 0), V.lit (Value.slice none 0 0),
 V.lit (Value.slice none 0 0), V.lit (Value.slice none 0 0), V.lit (Value.slice none 0 0), V.lit (Value.slice none 0 0),
 V.lit (Value.slice none 0 0), V.lit (Value.slice none 0 0), V.lit (Value.slice none 0 0), V.lit (Value.slice none 0 0),
 V.lit (Value.slice none 0 0), V.lit (Value.slice none 0 0), V.lit (Value.slice none 0 0), V.lit (Value.slice none 0 0),
 V.lit (Value.slice none 0 0), V.lit (Value.slice none 0 0), V.lit (Value.slice none 0 0), V.lit (Value.slice none 0 0),
 V.lit (Value.slice none 0 0), V.lit (Value.slice none 0 0), V.lit (Value.slice none 0 0), V.lit (Value.slice none 0 0),
 V.lit (Value.slice none 0 0), V.lit (Value.slice none 0 0), V.lit (Value.slice none 0 0), V.lit (Value.slice none 0 0),
 V.lit (Value.slice none 0 0), V.lit (Value.slice none 0 0), V.lit (Value.slice none 0 0), V.lit (Value.slice none 0 0),
 V.lit (Value.slice none 0 0), V.lit (Value.slice none 0 0), V.lit (Value.slice none 0 0), V.lit (Value.slice none 0 0),
 V.lit (Value.slice none 0 0), V.lit (Value.slice none 0 0), V.lit (Value.slice none 0 0), V.lit (Value.slice none 0 0),
 V.lit (Value.slice none 0 0), V.lit (Value.slice none 0 0), V.lit (Value.slice none 0 0), V.lit (Value.slice none 0 0),
 V.lit (Value.slice none 0 0), V.lit (Value.slice none 0 0), V.lit (Value.slice none 0 0), V.lit (Value.slice none 0 0),
 V.lit (Value.slice none 0 0), V.lit (Value.slice none 0 0), V.lit (Value.slice none 0 0), V.lit (Value.slice none 0 0),
 V.lit (Value.slice none 0 0), V.lit (Value.slice none 0 0), V.lit (Value.slice none 0 0), V.lit (Value.slice none 0 0),
 V.lit (Value.slice none 0 0), V.lit (Value.slice none 0 0), V.lit (Value.slice none 0 0), V.lit (Value.slice none 0 0),
 V.lit (Value.slice none 0 0), V.lit (Value.slice none 0 0), V.lit (Value.slice none 0 0), V.lit (Value.slice none 0 0),
 V.lit (Value.slice none 0 0), V.lit (Value.slice none 0 0), V.lit (Value.slice none 0 0), V.lit (Value.slice none 0 0),
 V.lit (Value.slice none 0 0), V.lit (Value.slice none 0 0), V.lit (Value.slice none 0 0), V.lit (Value.slice none 0 0),
 V.lit (Value.slice none 0 0), V.lit (Value.slice none 0 0), V.lit (Value.slice none 0 0), V.lit (Value.slice none 0 0),
 V.lit (Value.slice none 0 0), V.lit (Value.slice none 0 0), V.lit (Value.slice none 0 0), V.lit (Value.slice none 0 0),
 V.lit (Value.slice none 0 0), V.lit (Value.slice none 0 0), V.lit (Value.slice none 0 0), V.lit (Value.slice none 0 0),
 V.lit (Value.slice none 0 0), V.lit (Value.slice none 0 0), V.lit (Value.slice none 0 0), V.lit (Value.slice none 0 0),
 V.lit (Value.slice none 0 0), V.lit (Value.slice none 0 0), V.lit (Value.slice none 0 0), V.lit (Value.slice none 0 0),
 V.lit (Value.slice none 0 0), V.lit (Value.slice none 0 0), V.lit (Value.slice none 0 0), V.lit (Value.slice none 0 0),
 V.lit (Value.slice none 0 0), V.lit (Value.slice none 0 0), V.lit (Value.slice none 0 0), V.lit (Value.slice none 0 0),
 V.lit (Value.slice none 0 0), V.lit (Value.slice none 0 0), V.lit (Value.slice none 0 0), V.lit (Value.slice none 0 0),
 V.lit (Value.slice none 0 0), V.lit (Value.slice none 0 0), V.lit (Value.slice none 0 0), V.lit (Value.slice none 0 0),
 V.lit (Value.slice none 0 0), V.lit (Value.slice none 0 0), V.lit (Value.slice none 0 0), V.lit (Value.slice none 0 0),
 V.lit (Value.slice none 0 0), V.lit (Value.slice none 0 0), V.lit (Value.slice none 0 0), V.lit (Value.slice none 0 0),
 V.lit (Value.slice none 0 0), V.lit (Value.slice none 0 0), V.lit (Value.slice none 0 0), V.lit (Value.slice none 0 0),
 V.sl 3 0 2 false][0 + Int.toNat (↑(UInt8.toNat (List.getD t (Int.toNat i) (0 : UInt8))) : Int) * 1]? =
 some (V.sl 2 0 2 false)]
 (T.done
 (Ex.normal,
 St.mk
 (mkTm 122
 [(0, V.ptr 0 0), (1, V.str t), (5, V.int IntKind.i64 (IntKind.wrap IntKind.i64 (n + (1 : Int)))), (6, V.bool true),
 (10, V.int IntKind.i64 (IntKind.wrap IntKind.i64 (i + (1 : Int))))])
 [(repB 1),
 some ([V.sld [V.int IntKind.u8 (92 : Int), V.int IntKind.u8 (34 : Int)]], 5), some ([V.sld [V.int IntKind.u8 (92 : Int), V.int IntKind.u8 (92 : Int)]], 5),
 some ([V.str [92], V.str [34]], 9)]
 []))))))
 else
 T.done
 (Ex.exit 2,
 St.mk (mkTm 122 [(0, V.ptr 0 0), (1, V.str t), (5, V.int IntKind.i64 n), (6, V.bool b)])
 [(repB 1),
 some ([V.sld [V.int IntKind.u8 (92 : Int), V.int IntKind.u8 (34 : Int)]], 5), some ([V.sld [V.int IntKind.u8 (92 : Int), V.int IntKind.u8 (92 : Int)]], 5),
 some ([V.str [92], V.str [34]], 9)]
 []) := by kernel_rfl
set_option maxRecDepth 100000 in
theorem cntCo (t : List UInt8) (i n : Int) (b : Bool) : bodyT (E116 (fun _ => 0) nilS) 4 nfC (lp Tryz.prog fByteRep 2) (stC t i n b) =
 bif decide (i < (↑(List.length t) : Int)) then
 T.need [(0 : Int) ≤ i ∧ i < (↑(List.length t) : Int)]
 (T.need [(0 : Int) ≤ (↑(UInt8.toNat (List.getD t (Int.toNat i) (0 : UInt8))) : Int) ∧ (↑(UInt8.toNat (List.getD t (Int.toNat i) (0 : UInt8))) : Int) < (256 : Int)]
 (T.need
 [[V.lit (Value.slice none 0 0), V.lit (Value.slice none 0 0), V.lit (Value.slice none 0 0), V.lit (Value.slice none 0 0),
 V.lit (Value.slice none 0 0), V.lit (Value.slice none 0 0), V.lit (Value.slice none 0 0), V.lit (Value.slice none 0 0),
 V.lit (Value.slice none 0 0), V.lit (Value.slice none 0 0), V.lit (Value.slice none 0 0), V.lit (Value.slice none 0 0),
 V.lit (Value.slice none 0 0), V.lit (Value.slice none 0 0), V.lit (Value.slice none 0 0), V.lit (Value.slice none 0 0),
 V.lit (Value.slice none 0 0), V.lit (Value.slice none 0 0), V.lit (Value.slice none 0 0), V.lit (Value.slice none 0 0),
 V.lit (Value.slice none 0 0), V.lit (Value.slice none 0 0), V.lit (Value.slice none 0 0), V.lit (Value.slice none 0 0),
 V.lit (Value.slice none 0 0), V.lit (Value.slice none 0 0), V.lit (Value.slice none 0 0), V.lit (Value.slice none 0 0),
 V.lit (Value.slice none 0 0), V.lit (Value.slice none 0 0), V.lit (Value.slice none 0 0), V.lit (Value.slice none 0 0),
 V.lit (Value.slice none 0 0), V.lit (Value.slice none 0 0), V.sl 1 0 2 false, V.lit (Value.slice none 0 0),
 V.lit (Value.slice none 0 0), V.lit (Value.slice none 0 0), V.lit (Value.slice none 0 0), V.lit (Value.slice none 0 0),
 V.lit (Value.slice none 0 0), V.lit (Value.slice none 0 0), V.lit (Value.slice none 0 0), V.lit (Value.slice none 0 0),
 V.lit (Value.slice none 0 0), V.lit (Value.slice none 0 0), V.lit (Value.slice none 0 0), V.lit (Value.slice none 0 0),
 V.lit (Value.slice none 0 0), V.lit (Value.slice none 0 0), V.lit (Value.slice none 0 0), V.lit (Value.slice none 0 0),
 V.lit (Value.slice none 0 0), V.lit (Value.slice none 0 0), V.lit (Value.slice none 0 0), V.lit (Value.slice none 0 0),
 V.lit (Value.slice none 0 0), V.lit (Value.slice none 0 0), V.lit (Value.slice none 0 0), V.lit (Value.slice none 0 0),
 V.lit (Value.slice none 0 0), V.lit (Value.slice none 0 0), V.lit (Value.slice none 0 0), V.lit (Value.slice none 0 0),
 V.lit (Value.slice none 0 0), V.lit (Value.slice none 0 0), V.lit (Value.slice none 0 0), V.lit (Value.slice none 0 0),
 V.lit (Value.slice none 0 0), V.lit (Value.slice none 0 0), V.lit (Value.slice none 0 0), V.lit (Value.slice none 0 0),
 V.lit (Value.slice none 0 0), V.lit (Value.slice none 0 0), V.lit (Value.slice none 0 0), V.lit (Value.slice none 0 0),
 V.lit (Value.slice none 0 0), V.lit (Value.slice none 0 0), V.lit (Value.slice none 0 0), V.lit (Value.slice none 0 0),
 V.lit (Value.slice none 0 0), V.lit (Value.slice none 0 0), V.lit (Value.slice none 0 0), V.lit (Value.slice none 0 0),
 V.lit (Value.slice none 0 0), V.lit (Value.slice none 0 0), V.lit (Value.slice none 0 0), V.lit (Value.slice none 0 0),
 V.lit (Value.slice none 0 0), V.lit (Value.slice none 0 0), V.lit (Value.slice none 0 0), V.lit (Value.slice none 0 0),
 V.sl 2 0 2 false, V.lit (Value.slice none 0 0), V.lit (Value.slice none 0 0), V.lit (Value.slice none 0 0),
 V.lit (Value.slice none 0 0), V.lit (Value.slice none 0 0), V.lit (Value.slice none 0 0), V.lit (Value.slice none 0 0),
 V.lit (Value.slice none 0 0), V.lit (Value.slice none 0 0), V.lit (Value.slice none 0 0), V.lit (Value.slice none 0 0),
 V.lit (Value.slice none 0 0), V.lit (Value.slice none 0 0), V.lit (Value.slice none 0 0), V.lit (Value.slice none 0 0),
 V.lit (Value.slice none 0 0), V.lit (Value.slice none 0 0), V.lit (Value.slice none 0 0), V.lit (Value.slice none 0 0),
 V.lit (Value.slice none 0 0), V.lit (Value.slice none 0 0), V.lit (Value.slice none 0 0), V.lit (Value.slice none 0 0),
 V.lit (Value.slice none 0 0), V.lit (Value.slice none 0 0), V.lit (Value.slice none 0 0), V.lit (Value.slice none 0 0),
 V.lit (Value.slice none 0 0), V.lit (Value.slice none 0 0), V.lit (Value.slice none 0 0), V.lit (Value.slice none 0 0),
 V.lit (Value.slice none 0 0), V.lit (Value.slice none 0 0), V.lit (Value.slice none 0 0), V.lit (Value.slice none 0 0),
 V.lit (Value.slice none 0 0), V.lit (Value.slice none 0 0), V.lit (Value.slice none 0 0), V.lit (Value.slice none 0 0),
 V.lit (Value.slice none 0 0), V.lit (Value.slice none 0 0), V.lit (Value.slice none 0 0), V.lit (Value.slice none 0 0),
 V.lit (Value.slice none 0 0), V.lit (Value.slice none 0 0), V.lit (Value.slice none 0 0), V.lit (Value.slice none 0 0),
 V.lit (Value.slice none 0 0), V.lit (Value.slice none 0 0), V.lit (Value.slice none 0 0), V.lit (Value.slice none 0 0),
 V.lit (Value.slice none 0 0), V.lit (Value.slice none 0 0), V.lit (Value.slice none 0 0), V.lit (Value.slice none 0 0),
 V.lit (Value.slice none 0 0), V.lit (Value.slice none 0 0), V.lit (Value.slice none 0 0), V.lit (Value.slice none 0 0),
 V.lit (Value.slice none 0 0), V.lit (Value.slice none 0 0), V.lit (Value.slice none 0 0), V.lit (Value.slice none 0 0),
 V.lit (Value.slice none 0 0), V.lit (Value.slice none 0 0), V.lit (Value.slice none 0 0), V.lit (Value.slice none 0 0),
 V.lit (Value.slice none 0 0), V.lit (Value.slice none 0 0), V.lit (Value.slice none 0 0), V.lit (Value.slice none 0 0),
 V.lit (Value.slice none 0 0), V.lit (Value.slice none 0 0), V.lit (Value.slice none 0 0), V.lit (Value.slice none 0 0),
 V.lit (Value.slice none 0 0), V.lit (Value.slice none 0 0), V.lit (Value.slice none 0 0), V.lit (Value.slice none 0 0),
 V.lit (Value.slice none 0 0), V.lit (Value.slice none 0 0), V.lit (Value.slice none 0 0), V.lit (Value.slice none 0 0),
 V.lit (Value.slice none 0 0), V.lit (Value.slice none 0 0), V.lit (Value.slice none 0 0), V.lit (Value.slice none 0 0),
 V.lit (Value.slice none 0 0), V.lit (Value.slice none 0 0), V.lit (Value.slice none 0 0), V.lit (Value.slice none 0 0),
 V.lit (Value.slice none 0 0), V.lit (Value.slice none 0 0), V.lit (Value.slice none 0 0), V.lit (Value.slice none 0 0),
 V.lit (Value.slice none 0 0), V.lit (Value.slice none 0 0), V.lit (Value.slice none 0 0), V.lit (Value.slice none 0 0),
 V.lit (Value.slice none 0 0), V.lit (Value.slice none 0 0), V.lit (Value.slice none 0 0), V.lit (Value.slice none 0 0),
 V.lit (Value.slice none 0 0), V.lit (Value.slice none 0 0), V.lit (Value.slice none 0 0), V.lit (Value.slice none 0 0),
 V.lit (Value.slice none 0 0), V.lit (Value.slice none 0 0), V.lit (Value.slice none 0 0), V.lit (Value.slice none 0 0),
 V.lit (Value.slice none 0 0), V.lit (Value.slice none 0 0), V.lit (Value.slice none 0 0), V.lit (Value.slice none 0 0),
 V.lit (Value.slice none 0 0), V.lit (Value.slice none 0 0), V.lit (Value.slice none 0 0), V.lit (Value.slice none 0 0),
 V.lit (Value.slice none 0 0), V.lit (Value.slice none 0 0), V.lit (Value.slice none 0 0), V.lit (Value.slice none 0 0),
 V.lit (Value.slice none 0 0), V.lit (Value.slice none 0 0), V.lit (Value.slice none 0 0), V.lit (Value.slice none 0 0),
 V.lit (Value.slice none 0 0), V.lit (Value.slice none 0 0), V.lit (Value.slice none 0 0), V.lit (Value.slice none 0 0),
 V.lit (Value.slice none 0 0), V.lit (Value.slice none 0 0), V.lit (Value.slice none 0 0), V.lit (Value.slice none 0 0),
 V.lit (Value.slice none 0 0), V.lit (Value.slice none 0 0), V.lit (Value.slice none 0 0), V.lit (Value.slice none 0 0),
 V.lit (Value.slice none 0 0), V.lit (Value.slice none 0 0), V.lit (Value.slice none 0 0), V.lit (Value.slice none 0 0),
 V.lit (Value.slice none 0 0), V.lit (Value.slice none 0 0), V.lit (Value.slice none 0 0), V.lit (Value.slice none 0 0),
 V.lit (Value.slice none 0 0), V.lit (Value.slice none 0 0), V.lit (Value.slice none 0 0), V.lit (Value.slice none 0 0),
 V.lit (Value.slice none 0 0), V.lit (Value.slice none 0 0), V.lit (Value.slice none 0 0), V.lit (Value.slice none 0 0),
 V.lit (Value.slice none 0 0), V.lit (Value.slice none 0 0), V.lit (Value.slice none 0 0), V.lit (Value.slice none 0 0),
 V.lit (Value.slice none 0 0), V.lit (Value.slice none 0 0), V.lit (Value.slice none 0 0), V.lit (Value.slice none 0 0),
 V.sl 3 0 2 false][0 + Int.toNat (↑(UInt8.toNat (List.getD t (Int.toNat i) (0 : UInt8))) : Int) * 1]? =
 some (V.lit (Value.slice none 0 0))]
 (T.done
 (Ex.normal,
 St.mk
 (mkTm 122
 [(0, V.ptr 0 0), (1, V.str t), (5, V.int IntKind.i64 n), (6, V.bool b), (10, V.int IntKind.i64 (IntKind.wrap IntKind.i64 (i + (1 : Int))))])
 [(repB 1),
 some ([V.sld [V.int IntKind.u8 (92 : Int), V.int IntKind.u8 (34 : Int)]], 5), some ([V.sld [V.int IntKind.u8 (92 : Int), V.int IntKind.u8 (92 : Int)]], 5),
 some ([V.str [92], V.str [34]], 9)]
 []))))
 else
 T.done
 (Ex.exit 2,
 St.mk (mkTm 122 [(0, V.ptr 0 0), (1, V.str t), (5, V.int IntKind.i64 n), (6, V.bool b)])
 [(repB 1),
 some ([V.sld [V.int IntKind.u8 (92 : Int), V.int IntKind.u8 (34 : Int)]], 5), some ([V.sld [V.int IntKind.u8 (92 : Int), V.int IntKind.u8 (92 : Int)]], 5),
 some ([V.str [92], V.str [34]], 9)]
 []) := by kernel_rfl
set_option maxRecDepth 100000 in
theorem cpE34 (t B : List UInt8) (j i : Int) (fl : Bool) : bodyT (E116 (fun _ => 0) (.sl 1 0 2 false)) 4 nfE (lp Tryz.prog fByteRep 4) (stE t B j i fl) =
 bif decide (i < (↑(List.length t) : Int)) then
 T.need [(0 : Int) ≤ i ∧ i < (↑(List.length t) : Int)]
 (T.need [(0 : Int) ≤ (↑(UInt8.toNat (List.getD t (Int.toNat i) (0 : UInt8))) : Int) ∧ (↑(UInt8.toNat (List.getD t (Int.toNat i) (0 : UInt8))) : Int) < (256 : Int)]
 (T.need
 [[V.lit (Value.slice none 0 0), V.lit (Value.slice none 0 0), V.lit (Value.slice none 0 0), V.lit (Value.slice none 0 0),
 V.lit (Value.slice none 0 0), V.lit (Value.slice none 0 0), V.lit (Value.slice none 0 0), V.lit (Value.slice none 0 0),
 V.lit (Value.slice none 0 0), V.lit (Value.slice none 0 0), V.lit (Value.slice none 0 0), V.lit (Value.slice none 0 0),
 V.lit (Value.slice none 0 0), V.lit (Value.slice none 0 0), V.lit (Value.slice none 0 0), V.lit (Value.slice none 0 0),
 V.lit (Value.slice none 0 0), V.lit (Value.slice none 0 0), V.lit (Value.slice none 0 0), V.lit (Value.slice none 0 0),
 V.lit (Value.slice none 0 0), V.lit (Value.slice none 0 0), V.lit (Value.slice none 0 0), V.lit (Value.slice none 0 0),
 V.lit (Value.slice none 0 0), V.lit (Value.slice none 0 0), V.lit (Value.slice none 0 0), V.lit (Value.slice none 0 0),
 V.lit (Value.slice none 0 0), V.lit (Value.slice none 0 0), V.lit (Value.slice none 0 0), V.lit (Value.slice none 0 0),
 V.lit (Value.slice none 0 0), V.lit (Value.slice none 0 0), V.sl 1 0 2 false, V.lit (Value.slice none 0 0),
 V.lit (Value.slice none 0 0), V.lit (Value.slice none 0 0), V.lit (Value.slice none 0 0), V.lit (Value.slice none 0 0),
 V.lit (Value.slice none 0 0), V.lit (Value.slice none 0 0), V.lit (Value.slice none 0 0), V.lit (Value.slice none 0 0),
 V.lit (Value.slice none 0 0), V.lit (Value.slice none 0 0), V.lit (Value.slice none 0 0), V.lit (Value.slice none 0 0),
 V.lit (Value.slice none 0 0), V.lit (Value.slice none 0 0), V.lit (Value.slice none 0 0), V.lit (Value.slice none 0 0),
 V.lit (Value.slice none 0 0), V.lit (Value.slice none 0 0), V.lit (Value.slice none 0 0), V.lit (Value.slice none 0 0),
 V.lit (Value.slice none 0 0), V.lit (Value.slice none 0 0), V.lit (Value.slice none 0 0), V.lit (Value.slice none 0 0),
 V.lit (Value.slice none 0 0), V.lit (Value.slice none 0 0), V.lit (Value.slice none 0 0), V.lit (Value.slice none 0 0),
 V.lit (Value.slice none 0 0), V.lit (Value.slice none 0 0), V.lit (Value.slice none 0 0), V.lit (Value.slice none 0 0),
 V.lit (Value.slice none 0 0), V.lit (Value.slice none 0 0), V.lit (Value.slice none 0 0), V.lit (Value.slice none 0 0),
 V.lit (Value.slice none 0 0), V.lit (Value.slice none 0 0), V.lit (Value.slice none 0 0), V.lit (Value.slice none 0 0),
 V.lit (Value.slice none 0 0), V.lit (Value.slice none 0 0), V.lit (Value.slice none 0 0), V.lit (Value.slice none 0 0),
 V.lit (Value.slice none 0 0), V.lit (Value.slice none 0 0), V.lit (Value.slice none 0 0), V.lit (Value.slice none 0 0),
 V.lit (Value.slice none 0 0), V.lit (Value.slice none 0 0), V.lit (Value.slice none 0 0), V.lit (Value.slice none 0 0),
 V.lit (Value.slice none 0 0), V.lit (Value.slice none 0 0), V.lit (Value.slice none 0 0), V.lit (Value.slice none 0 0),
 V.sl 2 0 2 false, V.lit (Value.slice none 0 0), V.lit (Value.slice none 0 0), V.lit (Value.slice none 0 0),
 V.lit (Value.slice none 0 0), V.lit (Value.slice none 0 0), V.lit (Value.slice none 0 0), V.lit (Value.slice none 0 0),
 V.lit (Value.slice none 0 0), V.lit (Value.slice none 0 0), V.lit (Value.slice none 0 0), V.lit (Value.slice none 0 0),
 V.lit (Value.slice none 0 0), V.lit (Value.slice none 0 0), V.lit (Value.slice none 0 0), V.lit (Value.slice none 0 0),
 V.lit (Value.slice none 0 0), V.lit (Value.slice none 0 0), V.lit (Value.slice none 0 0), V.lit (Value.slice none 0 0),
 V.lit (Value.slice none 0 0), V.lit (Value.slice none 0 0), V.lit (Value.slice none 0 0), V.lit (Value.slice none 0 0),
 V.lit (Value.slice none 0 0), V.lit (Value.slice none 0 0), V.lit (Value.slice none 0 0), V.lit (Value.slice none 0 0),
 V.lit (Value.slice none 0 0), V.lit (Value.slice none 0 0), V.lit (Value.slice none 0 0), V.lit (Value.slice none 0 0),
 V.lit (Value.slice none 0 0), V.lit (Value.slice none 0 0), V.lit (Value.slice none 0 0), V.lit (Value.slice none 0 0),
 V.lit (Value.slice none 0 0), V.lit (Value.slice none 0 0), V.lit (Value.slice none 0 0), V.lit (Value.slice none 0 0),
 V.lit (Value.slice none 0 0), V.lit (Value.slice none 0 0), V.lit (Value.slice none 0 0), V.lit (Value.slice none 0 0),
 V.lit (Value.slice none 0 0), V.lit (Value.slice none 0 0), V.lit (Value.slice none 0 0), V.lit (Value.slice none 0 0),
 V.lit (Value.slice none 0 0), V.lit (Value.slice none 0 0), V.lit (Value.slice none 0 0), V.lit (Value.slice none 0 0),
 V.lit (Value.slice none 0 0), V.lit (Value.slice none 0 0), V.lit (Value.slice none 0 0), V.lit (Value.slice none 0 0),
 V.lit (Value.slice none 0 0), V.lit (Value.slice none 0 0), V.lit (Value.slice none 0 0), V.lit (Value.slice none 0 0),
 V.lit (Value.slice none 0 0), V.lit (Value.slice none 0 0), V.lit (Value.slice none 0 0), V.lit (Value.slice none 0 0),
 V.lit (Value.slice none 0 0), V.lit (Value.slice none 0 0), V.lit (Value.slice none 0 0), V.lit (Value.slice none 0 0),
 V.lit (Value.slice none 0 0), V.lit (Value.slice none 0 0), V.lit (Value.slice none 0 0), V.lit (Value.slice none 0 0),
 V.lit (Value.slice none 0 0), V.lit (Value.slice none 0 0), V.lit (Value.slice none 0 0), V.lit (Value.slice none 0 0),
 V.lit (Value.slice none 0 0), V.lit (Value.slice none 0 0), V.lit (Value.slice none 0 0), V.lit (Value.slice none 0 0),
 V.lit (Value.slice none 0 0), V.lit (Value.slice none 0 0), V.lit (Value.slice none 0 0), V.lit (Value.slice none 0 0),
 V.lit (Value.slice none 0 0), V.lit (Value.slice none 0 0), V.lit (Value.slice none 0 0), V.lit (Value.slice none 0 0),
 V.lit (Value.slice none 0 0), V.lit (Value.slice none 0 0), V.lit (Value.slice none 0 0), V.lit (Value.slice none 0 0),
 V.lit (Value.slice none 0 0), V.lit (Value.slice none 0 0), V.lit (Value.slice none 0 0), V.lit (Value.slice none 0 0),
 V.lit (Value.slice none 0 0), V.lit (Value.slice none 0 0), V.lit (Value.slice none 0 0), V.lit (Value.slice none 0 0),
 V.lit (Value.slice none 0 0), V.lit (Value.slice none 0 0), V.lit (Value.slice none 0 0), V.lit (Value.slice none 0 0),
 V.lit (Value.slice none 0 0), V.lit (Value.slice none 0 0), V.lit (Value.slice none 0 0), V.lit (Value.slice none 0 0),
 V.lit (Value.slice none 0 0), V.lit (Value.slice none 0 0), V.lit (Value.slice none 0 0), V.lit (Value.slice none 0 0),
 V.lit (Value.slice none 0 0), V.lit (Value.slice none 0 0), V.lit (Value.slice none 0 0), V.lit (Value.slice none 0 0),
 V.lit (Value.slice none 0 0), V.lit (Value.slice none 0 0), V.lit (Value.slice none 0 0), V.lit (Value.slice none 0 0),
 V.lit (Value.slice none 0 0), V.lit (Value.slice none 0 0), V.lit (Value.slice none 0 0), V.lit (Value.slice none 0 0),
 V.lit (Value.slice none 0 0), V.lit (Value.slice none 0 0), V.lit (Value.slice none 0 0), V.lit (Value.slice none 0 0),
 V.lit (Value.slice none 0 0), V.lit (Value.slice none 0 0), V.lit (Value.slice none 0 0), V.lit (Value.slice none 0 0),
 V.lit (Value.slice none 0 0), V.lit (Value.slice none 0 0), V.lit (Value.slice none 0 0), V.lit (Value.slice none 0 0),
 V.lit (Value.slice none 0 0), V.lit (Value.slice none 0 0), V.lit (Value.slice none 0 0), V.lit (Value.slice none 0 0),
 V.lit (Value.slice none 0 0), V.lit (Value.slice none 0 0), V.lit (Value.slice none 0 0), V.lit (Value.slice none 0 0),
 V.lit (Value.slice none 0 0), V.lit (Value.slice none 0 0), V.lit (Value.slice none 0 0), V.lit (Value.slice none 0 0),
 V.lit (Value.slice none 0 0), V.lit (Value.slice none 0 0), V.lit (Value.slice none 0 0), V.lit (Value.slice none 0 0),
 V.lit (Value.slice none 0 0), V.lit (Value.slice none 0 0), V.lit (Value.slice none 0 0), V.lit (Value.slice none 0 0),
 V.lit (Value.slice none 0 0), V.lit (Value.slice none 0 0), V.lit (Value.slice none 0 0), V.lit (Value.slice none 0 0),
 V.lit (Value.slice none 0 0), V.lit (Value.slice none 0 0), V.lit (Value.slice none 0 0), V.lit (Value.slice none 0 0),
 V.sl 3 0 2 false][0 + Int.toNat (↑(UInt8.toNat (List.getD t (Int.toNat i) (0 : UInt8))) : Int) * 1]? =
 some (V.sl 1 0 2 false)]
 (bif decide (Int.toNat j < List.length B) then
 T.need [(0 : Int) ≤ j ∧ j ≤ (↑(List.length B) : Int)]
 (T.need [(0 : Int) ≤ (↑(UInt8.toNat (List.getD t (Int.toNat i) (0 : UInt8))) : Int) ∧ (↑(UInt8.toNat (List.getD t (Int.toNat i) (0 : UInt8))) : Int) < (256 : Int)]
 (T.need
 [[V.lit (Value.slice none 0 0), V.lit (Value.slice none 0 0), V.lit (Value.slice none 0 0), V.lit (Value.slice none 0 0),
 V.lit (Value.slice none 0 0), V.lit (Value.slice none 0 0), V.lit (Value.slice none 0 0), V.lit (Value.slice none 0 0),
 V.lit (Value.slice none 0 0), V.lit (Value.slice none 0 0), V.lit (Value.slice none 0 0), V.lit (Value.slice none 0 0),
 V.lit (Value.slice none 0 0), V.lit (Value.slice none 0 0), V.lit (Value.slice none 0 0), V.lit (Value.slice none 0 0),
 V.lit (Value.slice none 0 0), V.lit (Value.slice none 0 0), V.lit (Value.slice none 0 0), V.lit (Value.slice none 0 0),
 V.lit (Value.slice none 0 0), V.lit (Value.slice none 0 0), V.lit (Value.slice none 0 0), V.lit (Value.slice none 0 0),
 V.lit (Value.slice none 0 0), V.lit (Value.slice none 0 0), V.lit (Value.slice none 0 0), V.lit (Value.slice none 0 0),
 V.lit (Value.slice none 0 0), V.lit (Value.slice none 0 0), V.lit (Value.slice none 0 0), V.lit (Value.slice none 0 0),
 V.lit (Value.slice none 0 0), V.lit (Value.slice none 0 0), V.sl 1 0 2 false, V.lit (Value.slice none 0 0),
 V.lit (Value.slice none 0 0), V.lit (Value.slice none 0 0), V.lit (Value.slice none 0 0), V.lit (Value.slice none 0 0),
 V.lit (Value.slice none 0 0), V.lit (Value.slice none 0 0), V.lit (Value.slice none 0 0), V.lit (Value.slice none 0 0),
 V.lit (Value.slice none 0 0), V.lit (Value.slice none 0 0), V.lit (Value.slice none 0 0), V.lit (Value.slice none 0 0),
 V.lit (Value.slice none 0 0), V.lit (Value.slice none 0 0), V.lit (Value.slice none 0 0), V.lit (Value.slice none 0 0),
 V.lit (Value.slice none 0 0), V.lit (Value.slice none 0 0), V.lit (Value.slice none 0 0), V.lit (Value.slice none 0 0),
 V.lit (Value.slice none 0 0), V.lit (Value.slice none 0 0), V.lit (Value.slice none 0 0), V.lit (Value.slice none 0 0),
 V.lit (Value.slice none 0 0), V.lit (Value.slice none 0 0), V.lit (Value.slice none 0 0), V.lit (Value.slice none 0 0),
 V.lit (Value.slice none 0 0), V.lit (Value.slice none 0 0), V.lit (Value.slice none 0 0), V.lit (Value.slice none 0 0),
 V.lit (Value.slice none 0 0), V.lit (Value.slice none 0 0), V.lit (Value.slice none 0 0), V.lit (Value.slice none 0 0),
 V.lit (Value.slice none 0 0), V.lit (Value.slice none 0 0), V.lit (Value.slice none 0 0), V.lit (Value.slice none 0 0),
 V.lit (Value.slice none 0 0), V.lit (Value.slice none 0 0), V.lit (Value.slice none 0 0), V.lit (Value.slice none 0 0),
 V.lit (Value.slice none 0 0), V.lit (Value.slice none 0 0), V.lit (Value.slice none 0 0), V.lit (Value.slice none 0 0),
 V.lit (Value.slice none 0 0), V.lit (Value.slice none 0 0), V.lit (Value.slice none 0 0), V.lit (Value.slice none 0 0),
 V.lit (Value.slice none 0 0), V.lit (Value.slice none 0 0), V.lit (Value.slice none 0 0), V.lit (Value.slice none 0 0),
 V.sl 2 0 2 false, V.lit (Value.slice none 0 0), V.lit (Value.slice none 0 0), V.lit (Value.slice none 0 0),
 V.lit (Value.slice none 0 0), V.lit (Value.slice none 0 0), V.lit (Value.slice none 0 0), V.lit (Value.slice none 0 0),
 V.lit (Value.slice none 0 0), V.lit (Value.slice none 0 0), V.lit (Value.slice none 0 0), V.lit (Value.slice none 0 0),
 V.lit (Value.slice none 0 0), V.lit (Value.slice none 0 0), V.lit (Value.slice none 0 0), V.lit (Value.slice none 0 0),
 V.lit (Value.slice none 0 0), V.lit (Value.slice none 0 0), V.lit (Value.slice none 0 0), V.lit (Value.slice none 0 0),
 V.lit (Value.slice none 0 0), V.lit (Value.slice none 0 0), V.lit (Value.slice none 0 0), V.lit (Value.slice none 0 0),
 V.lit (Value.slice none 0 0), V.lit (Value.slice none 0 0), V.lit (Value.slice none 0 0), V.lit (Value.slice none 0 0),
 V.lit (Value.slice none 0 0), V.lit (Value.slice none 0 0), V.lit (Value.slice none 0 0), V.lit (Value.slice none 0 0),
 V.lit (Value.slice none 0 0), V.lit (Value.slice none 0 0), V.lit (Value.slice none 0 0), V.lit (Value.slice none 0 0),
 V.lit (Value.slice none 0 0), V.lit (Value.slice none 0 0), V.lit (Value.slice none 0 0), V.lit (Value.slice none 0 0),
 V.lit (Value.slice none 0 0), V.lit (Value.slice none 0 0), V.lit (Value.slice none 0 0), V.lit (Value.slice none 0 0),
 V.lit (Value.slice none 0 0), V.lit (Value.slice none 0 0), V.lit (Value.slice none 0 0), V.lit (Value.slice none 0 0),
 V.lit (Value.slice none 0 0), V.lit (Value.slice none 0 0), V.lit (Value.slice none 0 0), V.lit (Value.slice none 0 0),
 V.lit (Value.slice none 0 0), V.lit (Value.slice none 0 0), V.lit (Value.slice none 0 0), V.lit (Value.slice none 0 0),
 V.lit (Value.slice none 0 0), V.lit (Value.slice none 0 0), V.lit (Value.slice none 0 0), V.lit (Value.slice none 0 0),
 V.lit (Value.slice none 0 0), V.lit (Value.slice none 0 0), V.lit (Value.slice none 0 0), V.lit (Value.slice none 0 0),
 V.lit (Value.slice none 0 0), V.lit (Value.slice none 0 0), V.lit (Value.slice none 0 0), V.lit (Value.slice none 0 0),
 V.lit (Value.slice none 0 0), V.lit (Value.slice none 0 0), V.lit (Value.slice none 0 0), V.lit (Value.slice none 0 0),
 V.lit (Value.slice none 0 0), V.lit (Value.slice none 0 0), V.lit (Value.slice none 0 0), V.lit (Value.slice none 0 0),
 V.lit (Value.slice none 0 0), V.lit (Value.slice none 0 0), V.lit (Value.slice none 0 0), V.lit (Value.slice none 0 0),
 V.lit (Value.slice none 0 0), V.lit (Value.slice none 0 0), V.lit (Value.slice none 0 0), V.lit (Value.slice none 0 0),
 V.lit (Value.slice none 0 0), V.lit (Value.slice none 0 0), V.lit (Value.slice none 0 0), V.lit (Value.slice none 0 0),
 V.lit (Value.slice none 0 0), V.lit (Value.slice none 0 0), V.lit (Value.slice none 0 0), V.lit (Value.slice none 0 0),
 V.lit (Value.slice none 0 0), V.lit (Value.slice none 0 0), V.lit (Value.slice none 0 0), V.lit (Value.slice none 0 0),
 V.lit (Value.slice none 0 0), V.lit (Value.slice none 0 0), V.lit (Value.slice none 0 0), V.lit (Value.slice none 0 0),
 V.lit (Value.slice none 0 0), V.lit (Value.slice none 0 0), V.lit (Value.slice none 0 0), V.lit (Value.slice none 0 0),
 V.lit (Value.slice none 0 0), V.lit (Value.slice none 0 0), V.lit (Value.slice none 0 0), V.lit (Value.slice none 0 0),
 V.lit (Value.slice none 0 0), V.lit (Value.slice none 0 0), V.lit (Value.slice none 0 0), V.lit (Value.slice none 0 0),
 V.lit (Value.slice none 0 0), V.lit (Value.slice none 0 0), V.lit (Value.slice none 0 0), V.lit (Value.slice none 0 0),
 V.lit (Value.slice none 0 0), V.lit (Value.slice none 0 0), V.lit (Value.slice none 0 0), V.lit (Value.slice none 0 0),
 V.lit (Value.slice none 0 0), V.lit (Value.slice none 0 0), V.lit (Value.slice none 0 0), V.lit (Value.slice none 0 0),
 V.lit (Value.slice none 0 0), V.lit (Value.slice none 0 0), V.lit (Value.slice none 0 0), V.lit (Value.slice none 0 0),
 V.lit (Value.slice none 0 0), V.lit (Value.slice none 0 0), V.lit (Value.slice none 0 0), V.lit (Value.slice none 0 0),
 V.lit (Value.slice none 0 0), V.lit (Value.slice none 0 0), V.lit (Value.slice none 0 0), V.lit (Value.slice none 0 0),
 V.lit (Value.slice none 0 0), V.lit (Value.slice none 0 0), V.lit (Value.slice none 0 0), V.lit (Value.slice none 0 0),
 V.lit (Value.slice none 0 0), V.lit (Value.slice none 0 0), V.lit (Value.slice none 0 0), V.lit (Value.slice none 0 0),
 V.lit (Value.slice none 0 0), V.lit (Value.slice none 0 0), V.lit (Value.slice none 0 0), V.lit (Value.slice none 0 0),
 V.lit (Value.slice none 0 0), V.lit (Value.slice none 0 0), V.lit (Value.slice none 0 0), V.lit (Value.slice none 0 0),
 V.lit (Value.slice none 0 0), V.lit (Value.slice none 0 0), V.lit (Value.slice none 0 0), V.lit (Value.slice none 0 0),
 V.lit (Value.slice none 0 0), V.lit (Value.slice none 0 0), V.lit (Value.slice none 0 0), V.lit (Value.slice none 0 0),
 V.lit (Value.slice none 0 0), V.lit (Value.slice none 0 0), V.lit (Value.slice none 0 0), V.lit (Value.slice none 0 0),
 V.sl 3 0 2 false][0 + Int.toNat (↑(UInt8.toNat (List.getD t (Int.toNat i) (0 : UInt8))) : Int) * 1]? =
 some (V.sl 1 0 2 false)]
 (T.need [2 ≤ List.length B - Int.toNat j, 0 + Int.toNat j * 1 + 2 ≤ List.length (encs encByte B)]
 (T.done
 (Ex.normal,
 St.mk
 (mkTm 122
 [(0, V.ptr 0 0), (1, V.str t), (12, V.sl 4 0 (List.length B) fl),
 (13, V.int IntKind.i64 (IntKind.wrap IntKind.i64 (j + (2 : Int)))), (14, V.int IntKind.i64 (IntKind.wrap IntKind.i64 (i + (1 : Int))))])
 [(repB 1),
 some ([V.sld [V.int IntKind.u8 (92 : Int), V.int IntKind.u8 (34 : Int)]], 5), some ([V.sld [V.int IntKind.u8 (92 : Int), V.int IntKind.u8 (92 : Int)]], 5),
 some ([V.str [92], V.str [34]], 9),
 some
 ([V.sld
 (List.take (0 + Int.toNat j * 1) (encs encByte B) ++
 V.int IntKind.u8 (92 : Int) :: V.int IntKind.u8 (34 : Int) :: List.drop (0 + Int.toNat j * 1 + 2) (encs encByte B))],
 5)]
 [])))))
 else
 T.need [(0 : Int) ≤ j ∧ j ≤ (↑(List.length B) : Int)]
 (T.need [(0 : Int) ≤ (↑(UInt8.toNat (List.getD t (Int.toNat i) (0 : UInt8))) : Int) ∧ (↑(UInt8.toNat (List.getD t (Int.toNat i) (0 : UInt8))) : Int) < (256 : Int)]
 (T.need
 [[V.lit (Value.slice none 0 0), V.lit (Value.slice none 0 0), V.lit (Value.slice none 0 0), V.lit (Value.slice none 0 0),
 V.lit (Value.slice none 0 0), V.lit (Value.slice none 0 0), V.lit (Value.slice none 0 0), V.lit (Value.slice none 0 0),
 V.lit (Value.slice none 0 0), V.lit (Value.slice none 0 0), V.lit (Value.slice none 0 0), V.lit (Value.slice none 0 0),
 V.lit (Value.slice none 0 0), V.lit (Value.slice none 0 0), V.lit (Value.slice none 0 0), V.lit (Value.slice none 0 0),
 V.lit (Value.slice none 0 0), V.lit (Value.slice none 0 0), V.lit (Value.slice none 0 0), V.lit (Value.slice none 0 0),
 V.lit (Value.slice none 0 0), V.lit (Value.slice none 0 0), V.lit (Value.slice none 0 0), V.lit (Value.slice none 0 0),
 V.lit (Value.slice none 0 0), V.lit (Value.slice none 0 0), V.lit (Value.slice none 0 0), V.lit (Value.slice none 0 0),
 V.lit (Value.slice none 0 0), V.lit (Value.slice none 0 0), V.lit (Value.slice none 0 0), V.lit (Value.slice none 0 0),
 V.lit (Value.slice none 0 0), V.lit (Value.slice none 0 0), V.sl 1 0 2 false, V.lit (Value.slice none 0 0),
 V.lit (Value.slice none 0 0), V.lit (Value.slice none 0 0), V.lit (Value.slice none 0 0), V.lit (Value.slice none 0 0),
 V.lit (Value.slice none 0 0), V.lit (Value.slice none 0 0), V.lit (Value.slice none 0 0), V.lit (Value.slice none 0 0),
 V.lit (Value.slice none 0 0), V.lit (Value.slice none 0 0), V.lit (Value.slice none 0 0), V.lit (Value.slice none 0 0),
 V.lit (Value.slice none 0 0), V.lit (Value.slice none 0 0), V.lit (Value.slice none 0 0), V.lit (Value.slice none 0 0),
 V.lit (Value.slice none 0 0), V.lit (Value.slice none 0 0), V.lit (Value.slice none 0 0), V.lit (Value.slice none 0 0),
 V.lit (Value.slice none 0 0), V.lit (Value.slice none 0 0), V.lit (Value.slice none 0 0), V.lit (Value.slice none 0 0),
 V.lit (Value.slice none 0 0), V.lit (Value.slice none 0 0), V.lit (Value.slice none 0 0), V.lit (Value.slice none 0 0),
 V.lit (Value.slice none 0 0), V.lit (Value.slice none 0 0), V.lit (Value.slice none 0 0), V.lit (Value.slice none 0 0),
 V.lit (Value.slice none 0 0), V.lit (Value.slice none 0 0), V.lit (Value.slice none 0 0), V.lit (Value.slice none 0 0),
 V.lit (Value.slice none 0 0), V.lit (Value.slice none 0 0), V.lit (Value.slice none 0 0), V.lit (Value.slice none 0 0),
 V.lit (Value.slice none 0 0), V.lit (Value.slice none 0 0), V.lit (Value.slice none 0 0), V.lit (Value.slice none 0 0),
 V.lit (Value.slice none 0 0), V.lit (Value.slice none 0 0), V.lit (Value.slice none 0 0), V.lit (Value.slice none 0 0),
 V.lit (Value.slice none 0 0), V.lit (Value.slice none 0 0), V.lit (Value.slice none 0 0), V.lit (Value.slice none 0 0),
 V.lit (Value.slice none 0 0), V.lit (Value.slice none 0 0), V.lit (Value.slice none 0 0), V.lit (Value.slice none 0 0),
 V.sl 2 0 2 false, V.lit (Value.slice none 0 0), V.lit (Value.slice none 0 0), V.lit (Value.slice none 0 0),
 V.lit (Value.slice none 0 0), V.lit (Value.slice none 0 0), V.lit (Value.slice none 0 0), V.lit (Value.slice none 0 0),
 V.lit (Value.slice none 0 0), V.lit (Value.slice none 0 0), V.lit (Value.slice none 0 0), V.lit (Value.slice none 0 0),
 V.lit (Value.slice none 0 0), V.lit (Value.slice none 0 0), V.lit (Value.slice none 0 0), V.lit (Value.slice none 0 0),
 V.lit (Value.slice none 0 0), V.lit (Value.slice none 0 0), V.lit (Value.slice none 0 0), V.lit (Value.slice none 0 0),
 V.lit (Value.slice none 0 0), V.lit (Value.slice none 0 0), V.lit (Value.slice none 0 0), V.lit (Value.slice none 0 0),
 V.lit (Value.slice none 0 0), V.lit (Value.slice none 0 0), V.lit (Value.slice none 0 0), V.lit (Value.slice none 0 0),
 V.lit (Value.slice none 0 0), V.lit (Value.slice none 0 0), V.lit (Value.slice none 0 0), V.lit (Value.slice none 0 0),
 V.lit (Value.slice none 0 0), V.lit (Value.slice none 0 0), V.lit (Value.slice none 0 0), V.lit (Value.slice none 0 0),
 V.lit (Value.slice none 0 0), V.lit (Value.slice none 0 0), V.lit (Value.slice none 0 0), V.lit (Value.slice none 0 0),
 V.lit (Value.slice none 0 0), V.lit (Value.slice none 0 0), V.lit (Value.slice none 0 0), V.lit (Value.slice none 0 0),
 V.lit (Value.slice none 0 0), V.lit (Value.slice none 0 0), V.lit (Value.slice none 0 0), V.lit (Value.slice none 0 0),
 V.lit (Value.slice none 0 0), V.lit (Value.slice none 0 0), V.lit (Value.slice none 0 0), V.lit (Value.slice none 0 0),
 V.lit (Value.slice none 0 0), V.lit (Value.slice none 0 0), V.lit (Value.slice none 0 0), V.lit (Value.slice none 0 0),
 V.lit (Value.slice none 0 0), V.lit (Value.slice none 0 0), V.lit (Value.slice none 0 0), V.lit (Value.slice none 0 0),
 V.lit (Value.slice none 0 0), V.lit (Value.slice none 0 0), V.lit (Value.slice none 0 0), V.lit (Value.slice none 0 0),
 V.lit (Value.slice none 0 0), V.lit (Value.slice none 0 0), V.lit (Value.slice none 0 0), V.lit (Value.slice none 0 0),
 V.lit (Value.slice none 0 0), V.lit (Value.slice none 0 0), V.lit (Value.slice none 0 0), V.lit (Value.slice none 0 0),
 V.lit (Value.slice none 0 0), V.lit (Value.slice none 0 0), V.lit (Value.slice none 0 0), V.lit (Value.slice none 0 0),
 V.lit (Value.slice none 0 0), V.lit (Value.slice none 0 0), V.lit (Value.slice none 0 0), V.lit (Value.slice none 0 0),
 V.lit (Value.slice none 0 0), V.lit (Value.slice none 0 0), V.lit (Value.slice none 0 0), V.lit (Value.slice none 0 0),
 V.lit (Value.slice none 0 0), V.lit (Value.slice none 0 0), V.lit (Value.slice none 0 0), V.lit (Value.slice none 0 0),
 V.lit (Value.slice none 0 0), V.lit (Value.slice none 0 0), V.lit (Value.slice none 0 0), V.lit (Value.slice none 0 0),
 V.lit (Value.slice none 0 0), V.lit (Value.slice none 0 0), V.lit (Value.slice none 0 0), V.lit (Value.slice none 0 0),
 V.lit (Value.slice none 0 0), V.lit (Value.slice none 0 0), V.lit (Value.slice none 0 0), V.lit (Value.slice none 0 0),
 V.lit (Value.slice none 0 0), V.lit (Value.slice none 0 0), V.lit (Value.slice none 0 0), V.lit (Value.slice none 0 0),
 V.lit (Value.slice none 0 0), V.lit (Value.slice none 0 0), V.lit (Value.slice none 0 0), V.lit (Value.slice none 0 0),
 V.lit (Value.slice none 0 0), V.lit (Value.slice none 0 0), V.lit (Value.slice none 0 0), V.lit (Value.slice none 0 0),
 V.lit (Value.slice none 0 0), V.lit (Value.slice none 0 0), V.lit (Value.slice none 0 0), V.lit (Value.slice none 0 0),
 V.lit (Value.slice none 0 0), V.lit (Value.slice none 0 0), V.lit (Value.slice none 0 0), V.lit (Value.slice none 0 0),
 V.lit (Value.slice none 0 0), V.lit (Value.slice none 0 0), V.lit (Value.slice none 0 0), V.lit (Value.slice none 0 0),
 V.lit (Value.slice none 0 0), V.lit (Value.slice none 0 0), V.lit (Value.slice none 0 0), V.lit (Value.slice none 0 0),
 V.lit (Value.slice none 0 0), V.lit (Value.slice none 0 0), V.lit (Value.slice none 0 0), V.lit (Value.slice none 0 0),
 V.lit (Value.slice none 0 0), V.lit (Value.slice none 0 0), V.lit (Value.slice none 0 0), V.lit (Value.slice none 0 0),
 V.lit (Value.slice none 0 0), V.lit (Value.slice none 0 0), V.lit (Value.slice none 0 0), V.lit (Value.slice none 0 0),
 V.lit (Value.slice none 0 0), V.lit (Value.slice none 0 0), V.lit (Value.slice none 0 0), V.lit (Value.slice none 0 0),
 V.lit (Value.slice none 0 0), V.lit (Value.slice none 0 0), V.lit (Value.slice none 0 0), V.lit (Value.slice none 0 0),
 V.lit (Value.slice none 0 0), V.lit (Value.slice none 0 0), V.lit (Value.slice none 0 0), V.lit (Value.slice none 0 0),
 V.lit (Value.slice none 0 0), V.lit (Value.slice none 0 0), V.lit (Value.slice none 0 0), V.lit (Value.slice none 0 0),
 V.lit (Value.slice none 0 0), V.lit (Value.slice none 0 0), V.lit (Value.slice none 0 0), V.lit (Value.slice none 0 0),
 V.lit (Value.slice none 0 0), V.lit (Value.slice none 0 0), V.lit (Value.slice none 0 0), V.lit (Value.slice none 0 0),
 V.sl 3 0 2 false][0 + Int.toNat (↑(UInt8.toNat (List.getD t (Int.toNat i) (0 : UInt8))) : Int) * 1]? =
 some (V.sl 1 0 2 false)]
 T.fail)))))
 else
 T.done
 (Ex.exit 4,
 St.mk (mkTm 122 [(12, V.sl 4 0 (List.length B) fl)])
 [(repB 1),
 some ([V.sld [V.int IntKind.u8 (92 : Int), V.int IntKind.u8 (34 : Int)]], 5), some ([V.sld [V.int IntKind.u8 (92 : Int), V.int IntKind.u8 (92 : Int)]], 5),
 some ([V.str [92], V.str [34]], 9), bytBQ B]
 []) := by kernel_rfl
set_option maxRecDepth 100000 in
theorem cpE92 (t B : List UInt8) (j i : Int) (fl : Bool) : bodyT (E116 (fun _ => 0) (.sl 2 0 2 false)) 4 nfE (lp Tryz.prog fByteRep 4) (stE t B j i fl) =
 bif decide (i < (↑(List.length t) : Int)) then
 T.need [(0 : Int) ≤ i ∧ i < (↑(List.length t) : Int)]
 (T.need [(0 : Int) ≤ (↑(UInt8.toNat (List.getD t (Int.toNat i) (0 : UInt8))) : Int) ∧ (↑(UInt8.toNat (List.getD t (Int.toNat i) (0 : UInt8))) : Int) < (256 : Int)]
 (T.need
 [[V.lit (Value.slice none 0 0), V.lit (Value.slice none 0 0), V.lit (Value.slice none 0 0), V.lit (Value.slice none 0 0),
 V.lit (Value.slice none 0 0), V.lit (Value.slice none 0 0), V.lit (Value.slice none 0 0), V.lit (Value.slice none 0 0),
 V.lit (Value.slice none 0 0), V.lit (Value.slice none 0 0), V.lit (Value.slice none 0 0), V.lit (Value.slice none 0 0),
 V.lit (Value.slice none 0 0), V.lit (Value.slice none 0 0), V.lit (Value.slice none 0 0), V.lit (Value.slice none 0 0),
 V.lit (Value.slice none 0 0), V.lit (Value.slice none 0 0), V.lit (Value.slice none 0 0), V.lit (Value.slice none 0 0),
 V.lit (Value.slice none 0 0), V.lit (Value.slice none 0 0), V.lit (Value.slice none 0 0), V.lit (Value.slice none 0 0),
 V.lit (Value.slice none 0 0), V.lit (Value.slice none 0 0), V.lit (Value.slice none 0 0), V.lit (Value.slice none 0 0),
 V.lit (Value.slice none 0 0), V.lit (Value.slice none 0 0), V.lit (Value.slice none 0 0), V.lit (Value.slice none 0 0),
 V.lit (Value.slice none 0 0), V.lit (Value.slice none 0 0), V.sl 1 0 2 false, V.lit (Value.slice none 0 0),
 V.lit (Value.slice none 0 0), V.lit (Value.slice none 0 0), V.lit (Value.slice none 0 0), V.lit (Value.slice none 0 0),
 V.lit (Value.slice none 0 0), V.lit (Value.slice none 0 0), V.lit (Value.slice none 0 0), V.lit (Value.slice none 0 0),
 V.lit (Value.slice none 0 0), V.lit (Value.slice none 0 0), V.lit (Value.slice none 0 0), V.lit (Value.slice none 0 0),
 V.lit (Value.slice none 0 0), V.lit (Value.slice none 0 0), V.lit (Value.slice none 0 0), V.lit (Value.slice none 0 0),
 V.lit (Value.slice none 0 0), V.lit (Value.slice none 0 0), V.lit (Value.slice none 0 0), V.lit (Value.slice none 0 0),
 V.lit (Value.slice none 0 0), V.lit (Value.slice none 0 0), V.lit (Value.slice none 0 0), V.lit (Value.slice none 0 0),
 V.lit (Value.slice none 0 0), V.lit (Value.slice none 0 0), V.lit (Value.slice none 0 0), V.lit (Value.slice none 0 0),
 V.lit (Value.slice none 0 0), V.lit (Value.slice none 0 0), V.lit (Value.slice none 0 0), V.lit (Value.slice none 0 0),
 V.lit (Value.slice none 0 0), V.lit (Value.slice none 0 0), V.lit (Value.slice none 0 0), V.lit (Value.slice none 0 0),
 V.lit (Value.slice none 0 0), V.lit (Value.slice none 0 0), V.lit (Value.slice none 0 0), V.lit (Value.slice none 0 0),
 V.lit (Value.slice none 0 0), V.lit (Value.slice none 0 0), V.lit (Value.slice none 0 0), V.lit (Value.slice none 0 0),
 V.lit (Value.slice none 0 0), V.lit (Value.slice none 0 0), V.lit (Value.slice none 0 0), V.lit (Value.slice none 0 0),
 V.lit (Value.slice none 0 0), V.lit (Value.slice none 0 0), V.lit (Value.slice none 0 0), V.lit (Value.slice none 0 0),
 V.lit (Value.slice none 0 0), V.lit (Value.slice none 0 0), V.lit (Value.slice none 0 0), V.lit (Value.slice none 0 0),
 V.sl 2 0 2 false, V.lit (Value.slice none 0 0), V.lit (Value.slice none 0 0), V.lit (Value.slice none 0 0),
 V.lit (Value.slice none 0 0), V.lit (Value.slice none 0 0), V.lit (Value.slice none 0 0), V.lit (Value.slice none 0 0),
 V.lit (Value.slice none 0 0), V.lit (Value.slice none 0 0), V.lit (Value.slice none 0 0), V.lit (Value.slice none 0 0),
 V.lit (Value.slice none 0 0), V.lit (Value.slice none 0 0), V.lit (Value.slice none 0 0), V.lit (Value.slice none 0 0),
 V.lit (Value.slice none 0 0), V.lit (Value.slice none 0 0), V.lit (Value.slice none 0 0), V.lit (Value.slice none 0 0),
 V.lit (Value.slice none 0 0), V.lit (Value.slice none 0 0), V.lit (Value.slice none 0 0), V.lit (Value.slice none 0 0),
 V.lit (Value.slice none 0 0), V.lit (Value.slice none 0 0), V.lit (Value.slice none 0 0), V.lit (Value.slice none 0 0),
 V.lit (Value.slice none 0 0), V.lit (Value.slice none 0 0), V.lit (Value.slice none 0 0), V.lit (Value.slice none 0 0),
 V.lit (Value.slice none 0 0), V.lit (Value.slice none 0 0), V.lit (Value.slice none 0 0), V.lit (Value.slice none 0 0),
 V.lit (Value.slice none 0 0), V.lit (Value.slice none 0 0), V.lit (Value.slice none 0 0), V.lit (Value.slice none 0 0),
 V.lit (Value.slice none 0 0), V.lit (Value.slice none 0 0), V.lit (Value.slice none 0 0), V.lit (Value.slice none 0 0),
 V.lit (Value.slice none 0 0), V.lit (Value.slice none 0 0), V.lit (Value.slice none 0 0), V.lit (Value.slice none 0 0),
 V.lit (Value.slice none 0 0), V.lit (Value.slice none 0 0), V.lit (Value.slice none 0 0), V.lit (Value.slice none 0 0),
 V.lit (Value.slice none 0 0), V.lit (Value.slice none 0 0), V.lit (Value.slice none 0 0), V.lit (Value.slice none 0 0),
 V.lit (Value.slice none 0 0), V.lit (Value.slice none 0 0), V.lit (Value.slice none 0 0), V.lit (Value.slice none 0 0),
 V.lit (Value.slice none 0 0), V.lit (Value.slice none 0 0), V.lit (Value.slice none 0 0), V.lit (Value.slice none 0 0),
 V.lit (Value.slice none 0 0), V.lit (Value.slice none 0 0), V.lit (Value.slice none 0 0), V.lit (Value.slice none 0 0),
 V.lit (Value.slice none 0 0), V.lit (Value.slice none 0 0), V.lit (Value.slice none 0 0), V.lit (Value.slice none 0 0),
 V.lit (Value.slice none 0 0), V.lit (Value.slice none 0 0), V.lit (Value.slice none 0 0), V.lit (Value.slice none 0 0),
 V.lit (Value.slice none 0 0), V.lit (Value.slice none 0 0), V.lit (Value.slice none 0 0), V.lit (Value.slice none 0 0),
 V.lit (Value.slice none 0 0), V.lit (Value.slice none 0 0), V.lit (Value.slice none 0 0), V.lit (Value.slice none 0 0),
 V.lit (Value.slice none 0 0), V.lit (Value.slice none 0 0), V.lit (Value.slice none 0 0), V.lit (Value.slice none 0 0),
 V.lit (Value.slice none 0 0), V.lit (Value.slice none 0 0), V.lit (Value.slice none 0 0), V.lit (Value.slice none 0 0),
 V.lit (Value.slice none 0 0), V.lit (Value.slice none 0 0), V.lit (Value.slice none 0 0), V.lit (Value.slice none 0 0),
 V.lit (Value.slice none 0 0), V.lit (Value.slice none 0 0), V.lit (Value.slice none 0 0), V.lit (Value.slice none 0 0),
 V.lit (Value.slice none 0 0), V.lit (Value.slice none 0 0), V.lit (Value.slice none 0 0), V.lit (Value.slice none 0 0),
 V.lit (Value.slice none 0 0), V.lit (Value.slice none 0 0), V.lit (Value.slice none 0 0), V.lit (Value.slice none 0 0),
 V.lit (Value.slice none 0 0), V.lit (Value.slice none 0 0), V.lit (Value.slice none 0 0), V.lit (Value.slice none 0 0),
 V.lit (Value.slice none 0 0), V.lit (Value.slice none 0 0), V.lit (Value.slice none 0 0), V.lit (Value.slice none 0 0),
 V.lit (Value.slice none 0 0), V.lit (Value.slice none 0 0), V.lit (Value.slice none 0 0), V.lit (Value.slice none 0 0),
 V.lit (Value.slice none 0 0), V.lit (Value.slice none 0 0), V.lit (Value.slice none 0 0), V.lit (Value.slice none 0 0),
 V.lit (Value.slice none 0 0), V.lit (Value.slice none 0 0), V.lit (Value.slice none 0 0), V.lit (Value.slice none 0 0),
 V.lit (Value.slice none 0 0), V.lit (Value.slice none 0 0), V.lit (Value.slice none 0 0), V.lit (Value.slice none 0 0),
 V.lit (Value.slice none 0 0), V.lit (Value.slice none 0 0), V.lit (Value.slice none 0 0), V.lit (Value.slice none 0 0),
 V.lit (Value.slice none 0 0), V.lit (Value.slice none 0 0), V.lit (Value.slice none 0 0), V.lit (Value.slice none 0 0),
 V.lit (Value.slice none 0 0), V.lit (Value.slice none 0 0), V.lit (Value.slice none 0 0), V.lit (Value.slice none 0 0),
 V.lit (Value.slice none 0 0), V.lit (Value.slice none 0 0), V.lit (Value.slice none 0 0), V.lit (Value.slice none 0 0),
 V.lit (Value.slice none 0 0), V.lit (Value.slice none 0 0), V.lit (Value.slice none 0 0), V.lit (Value.slice none 0 0),
 V.lit (Value.slice none 0 0), V.lit (Value.slice none 0 0), V.lit (Value.slice none 0 0), V.lit (Value.slice none 0 0),
 V.lit (Value.slice none 0 0), V.lit (Value.slice none 0 0), V.lit (Value.slice none 0 0), V.lit (Value.slice none 0 0),
 V.lit (Value.slice none 0 0), V.lit (Value.slice none 0 0), V.lit (Value.slice none 0 0), V.lit (Value.slice none 0 0),
 V.sl 3 0 2 false][0 + Int.toNat (↑(UInt8.toNat (List.getD t (Int.toNat i) (0 : UInt8))) : Int) * 1]? =
 some (V.sl 2 0 2 false)]
 (bif decide (Int.toNat j < List.length B) then
 T.need [(0 : Int) ≤ j ∧ j ≤ (↑(List.length B) : Int)]
 (T.need [(0 : Int) ≤ (↑(UInt8.toNat (List.getD t (Int.toNat i) (0 : UInt8))) : Int) ∧ (↑(UInt8.toNat (List.getD t (Int.toNat i) (0 : UInt8))) : Int) < (256 : Int)]
 (T.need
 [[V.lit (Value.slice none 0 0), V.lit (Value.slice none 0 0), V.lit (Value.slice none 0 0), V.lit (Value.slice none 0 0),
 V.lit (Value.slice none 0 0), V.lit (Value.slice none 0 0), V.lit (Value.slice none 0 0), V.lit (Value.slice none 0 0),
 V.lit (Value.slice none 0 0), V.lit (Value.slice none 0 0), V.lit (Value.slice none 0 0), V.lit (Value.slice none 0 0),
 V.lit (Value.slice none 0 0), V.lit (Value.slice none 0 0), V.lit (Value.slice none 0 0), V.lit (Value.slice none 0 0),
 V.lit (Value.slice none 0 0), V.lit (Value.slice none 0 0), V.lit (Value.slice none 0 0), V.lit (Value.slice none 0 0),
 V.lit (Value.slice none 0 0), V.lit (Value.slice none 0 0), V.lit (Value.slice none 0 0), V.lit (Value.slice none 0 0),
 V.lit (Value.slice none 0 0), V.lit (Value.slice none 0 0), V.lit (Value.slice none 0 0), V.lit (Value.slice none 0 0),
 V.lit (Value.slice none 0 0), V.lit (Value.slice none 0 0), V.lit (Value.slice none 0 0), V.lit (Value.slice none 0 0),
 V.lit (Value.slice none 0 0), V.lit (Value.slice none 0 0), V.sl 1 0 2 false, V.lit (Value.slice none 0 0),
 V.lit (Value.slice none 0 0), V.lit (Value.slice none 0 0), V.lit (Value.slice none 0 0), V.lit (Value.slice none 0 0),
 V.lit (Value.slice none 0 0), V.lit (Value.slice none 0 0), V.lit (Value.slice none 0 0), V.lit (Value.slice none 0 0),
 V.lit (Value.slice none 0 0), V.lit (Value.slice none 0 0), V.lit (Value.slice none 0 0), V.lit (Value.slice none 0 0),
 V.lit (Value.slice none 0 0), V.lit (Value.slice none 0 0), V.lit (Value.slice none 0 0), V.lit (Value.slice none 0 0),
 V.lit (Value.slice none 0 0), V.lit (Value.slice none 0 0), V.lit (Value.slice none 0 0), V.lit (Value.slice none 0 0),
 V.lit (Value.slice none 0 0), V.lit (Value.slice none 0 0), V.lit (Value.slice none 0 0), V.lit (Value.slice none 0 0),
 V.lit (Value.slice none 0 0), V.lit (Value.slice none 0 0), V.lit (Value.slice none 0 0), V.lit (Value.slice none 0 0),
 V.lit (Value.slice none 0 0), V.lit (Value.slice none 0 0), V.lit (Value.slice none 0 0), V.lit (Value.slice none 0 0),
 V.lit (Value.slice none 0 0), V.lit (Value.slice none 0 0), V.lit (Value.slice none 0 0), V.lit (Value.slice none 0 0),
 V.lit (Value.slice none 0 0), V.lit (Value.slice none 0 0), V.lit (Value.slice none 0 0), V.lit (Value.slice none 0 0),
 V.lit (Value.slice none 0 0), V.lit (Value.slice none 0 0), V.lit (Value.slice none 0 0), V.lit (Value.slice none 0 0),
 V.lit (Value.slice none 0 0), V.lit (Value.slice none 0 0), V.lit (Value.slice none 0 0), V.lit (Value.slice none 0 0),
 V.lit (Value.slice none 0 0), V.lit (Value.slice none 0 0), V.lit (Value.slice none 0 0), V.lit (Value.slice none 0 0),
 V.lit (Value.slice none 0 0), V.lit (Value.slice none 0 0), V.lit (Value.slice none 0 0), V.lit (Value.slice none 0 0),
 V.sl 2 0 2 false, V.lit (Value.slice none 0 0), V.lit (Value.slice none 0 0), V.lit (Value.slice none 0 0),
 V.lit (Value.slice none 0 0), V.lit (Value.slice none 0 0), V.lit (Value.slice none 0 0), V.lit (Value.slice none 0 0),
 V.lit (Value.slice none 0 0), V.lit (Value.slice none 0 0), V.lit (Value.slice none 0 0), V.lit (Value.slice none 0 0),
 V.lit (Value.slice none 0 0), V.lit (Value.slice none 0 0), V.lit (Value.slice none 0 0), V.lit (Value.slice none 0 0),
 V.lit (Value.slice none 0 0), V.lit (Value.slice none 0 0), V.lit (Value.slice none 0 0), V.lit (Value.slice none 0 0),
 V.lit (Value.slice none 0 0), V.lit (Value.slice none 0 0), V.lit (Value.slice none 0 0), V.lit (Value.slice none 0 0),
 V.lit (Value.slice none 0 0), V.lit (Value.slice none 0 0), V.lit (Value.slice none 0 0), V.lit (Value.slice none 0 0),
 V.lit (Value.slice none 0 0), V.lit (Value.slice none 0 0), V.lit (Value.slice none 0 0), V.lit (Value.slice none 0 0),
 V.lit (Value.slice none 0 0), V.lit (Value.slice none 0 0), V.lit (Value.slice none 0 0), V.lit (Value.slice none 0 0),
 V.lit (Value.slice none 0 0), V.lit (Value.slice none 0 0), V.lit (Value.slice none 0 0), V.lit (Value.slice none 0 0),
 V.lit (Value.slice none 0 0), V.lit (Value.slice none 0 0), V.lit (Value.slice none 0 0), V.lit (Value.slice none 0 0),
 V.lit (Value.slice none 0 0), V.lit (Value.slice none 0 0), V.lit (Value.slice none 0 0), V.lit (Value.slice none 0 0),
 V.lit (Value.slice none 0 0), V.lit (Value.slice none 0 0), V.lit (Value.slice none 0 0), V.lit (Value.slice none 0 0),
 V.lit (Value.slice none 0 0), V.lit (Value.slice none 0 0), V.lit (Value.slice none 0 0), V.lit (Value.slice none 0 0),
 V.lit (Value.slice none 0 0), V.lit (Value.slice none 0 0), V.lit (Value.slice none 0 0), V.lit (Value.slice none 0 0),
 V.lit (Value.slice none 0 0), V.lit (Value.slice none 0 0), V.lit (Value.slice none 0 0), V.lit (Value.slice none 0 0),
 V.lit (Value.slice none 0 0), V.lit (Value.slice none 0 0), V.lit (Value.slice none 0 0), V.lit (Value.slice none 0 0),
 V.lit (Value.slice none 0 0), V.lit (Value.slice none 0 0), V.lit (Value.slice none 0 0), V.lit (Value.slice none 0 0),
 V.lit (Value.slice none 0 0), V.lit (Value.slice none 0 0), V.lit (Value.slice none 0 0), V.lit (Value.slice none 0 0),
 V.lit (Value.slice none 0 0), V.lit (Value.slice none 0 0), V.lit (Value.slice none 0 0), V.lit (Value.slice none 0 0),
 V.lit (Value.slice none 0 0), V.lit (Value.slice none 0 0), V.lit (Value.slice none 0 0), V.lit (Value.slice none 0 0),
 V.lit (Value.slice none 0 0), V.lit (Value.slice none 0 0), V.lit (Value.slice none 0 0), V.lit (Value.slice none 0 0),
 V.lit (Value.slice none 0 0), V.lit (Value.slice none 0 0), V.lit (Value.slice none 0 0), V.lit (Value.slice none 0 0),
 V.lit (Value.slice none 0 0), V.lit (Value.slice none 0 0), V.lit (Value.slice none 0 0), V.lit (Value.slice none 0 0),
 V.lit (Value.slice none 0 0), V.lit (Value.slice none 0 0), V.lit (Value.slice none 0 0), V.lit (Value.slice none 0 0),
 V.lit (Value.slice none 0 0), V.lit (Value.slice none 0 0), V.lit (Value.slice none 0 0), V.lit (Value.slice none 0 0),
 V.lit (Value.slice none 0 0), V.lit (Value.slice none 0 0), V.lit (Value.slice none 0 0), V.lit (Value.slice none 0 0),
 V.lit (Value.slice none 0 0), V.lit (Value.slice none 0 0), V.lit (Value.slice none 0 0), V.lit (Value.slice none 0 0),
 V.lit (Value.slice none 0 0), V.lit (Value.slice none 0 0), V.lit (Value.slice none 0 0), V.lit (Value.slice none 0 0),
 V.lit (Value.slice none 0 0), V.lit (Value.slice none 0 0), V.lit (Value.slice none 0 0), V.lit (Value.slice none 0 0),
 V.lit (Value.slice none 0 0), V.lit (Value.slice none 0 0), V.lit (Value.slice none 0 0), V.lit (Value.slice none 0 0),
 V.lit (Value.slice none 0 0), V.lit (Value.slice none 0 0), V.lit (Value.slice none 0 0), V.lit (Value.slice none 0 0),
 V.lit (Value.slice none 0 0), V.lit (Value.slice none 0 0), V.lit (Value.slice none 0 0), V.lit (Value.slice none 0 0),
 V.lit (Value.slice none 0 0), V.lit (Value.slice none 0 0), V.lit (Value.slice none 0 0), V.lit (Value.slice none 0 0),
 V.lit (Value.slice none 0 0), V.lit (Value.slice none 0 0), V.lit (Value.slice none 0 0), V.lit (Value.slice none 0 0),
 V.lit (Value.slice none 0 0), V.lit (Value.slice none 0 0), V.lit (Value.slice none 0 0), V.lit (Value.slice none 0 0),
 V.lit (Value.slice none 0 0), V.lit (Value.slice none 0 0), V.lit (Value.slice none 0 0), V.lit (Value.slice none 0 0),
 V.lit (Value.slice none 0 0), V.lit (Value.slice none 0 0), V.lit (Value.slice none 0 0), V.lit (Value.slice none 0 0),
 V.lit (Value.slice none 0 0), V.lit (Value.slice none 0 0), V.lit (Value.slice none 0 0), V.lit (Value.slice none 0 0),
 V.lit (Value.slice none 0 0), V.lit (Value.slice none 0 0), V.lit (Value.slice none 0 0), V.lit (Value.slice none 0 0),
 V.lit (Value.slice none 0 0), V.lit (Value.slice none 0 0), V.lit (Value.slice none 0 0), V.lit (Value.slice none 0 0),
 V.sl 3 0 2 false][0 + Int.toNat (↑(UInt8.toNat (List.getD t (Int.toNat i) (0 : UInt8))) : Int) * 1]? =
 some (V.sl 2 0 2 false)]
 (T.need [2 ≤ List.length B - Int.toNat j, 0 + Int.toNat j * 1 + 2 ≤ List.length (encs encByte B)]
 (T.done
 (Ex.normal,
 St.mk
 (mkTm 122
 [(0, V.ptr 0 0), (1, V.str t), (12, V.sl 4 0 (List.length B) fl),
 (13, V.int IntKind.i64 (IntKind.wrap IntKind.i64 (j + (2 : Int)))), (14, V.int IntKind.i64 (IntKind.wrap IntKind.i64 (i + (1 : Int))))])
 [(repB 1),
 some ([V.sld [V.int IntKind.u8 (92 : Int), V.int IntKind.u8 (34 : Int)]], 5), some ([V.sld [V.int IntKind.u8 (92 : Int), V.int IntKind.u8 (92 : Int)]], 5),
 some ([V.str [92], V.str [34]], 9),
 some
 ([V.sld
 (List.take (0 + Int.toNat j * 1) (encs encByte B) ++
 V.int IntKind.u8 (92 : Int) :: V.int IntKind.u8 (92 : Int) :: List.drop (0 + Int.toNat j * 1 + 2) (encs encByte B))],
 5)]
 [])))))
 else
 T.need [(0 : Int) ≤ j ∧ j ≤ (↑(List.length B) : Int)]
 (T.need [(0 : Int) ≤ (↑(UInt8.toNat (List.getD t (Int.toNat i) (0 : UInt8))) : Int) ∧ (↑(UInt8.toNat (List.getD t (Int.toNat i) (0 : UInt8))) : Int) < (256 : Int)]
 (T.need
 [[V.lit (Value.slice none 0 0), V.lit (Value.slice none 0 0), V.lit (Value.slice none 0 0), V.lit (Value.slice none 0 0),
 V.lit (Value.slice none 0 0), V.lit (Value.slice none 0 0), V.lit (Value.slice none 0 0), V.lit (Value.slice none 0 0),
 V.lit (Value.slice none 0 0), V.lit (Value.slice none 0 0), V.lit (Value.slice none 0 0), V.lit (Value.slice none 0 0),
 V.lit (Value.slice none 0 0), V.lit (Value.slice none 0 0), V.lit (Value.slice none 0 0), V.lit (Value.slice none 0 0),
 V.lit (Value.slice none 0 0), V.lit (Value.slice none 0 0), V.lit (Value.slice none 0 0), V.lit (Value.slice none 0 0),
 V.lit (Value.slice none 0 0), V.lit (Value.slice none 0 0), V.lit (Value.slice none 0 0), V.lit (Value.slice none 0 0),
 V.lit (Value.slice none 0 0), V.lit (Value.slice none 0 0), V.lit (Value.slice none 0 0), V.lit (Value.slice none 0 0),
 V.lit (Value.slice none 0 0), V.lit (Value.slice none 0 0), V.lit (Value.slice none 0 0), V.lit (Value.slice none 0 0),
 V.lit (Value.slice none 0 0), V.lit (Value.slice none 0 0), V.sl 1 0 2 false, V.lit (Value.slice none 0 0),
 V.lit (Value.slice none 0 0), V.lit (Value.slice none 0 0), V.lit (Value.slice none 0 0), V.lit (Value.slice none 0 0),
 V.lit (Value.slice none 0 0), V.lit (Value.slice none 0 0), V.lit (Value.slice none 0 0), V.lit (Value.slice none 0 0),
 V.lit (Value.slice none 0 0), V.lit (Value.slice none 0 0), V.lit (Value.slice none 0 0), V.lit (Value.slice none 0 0),
 V.lit (Value.slice none 0 0), V.lit (Value.slice none 0 0), V.lit (Value.slice none 0 0), V.lit (Value.slice none 0 0),
 V.lit (Value.slice none 0 0), V.lit (Value.slice none 0 0), V.lit (Value.slice none 0 0), V.lit (Value.slice none 0 0),
 V.lit (Value.slice none 0 0), V.lit (Value.slice none 0 0), V.lit (Value.slice none 0 0), V.lit (Value.slice none 0 0),
 V.lit (Value.slice none 0 0), V.lit (Value.slice none 0 0), V.lit (Value.slice none 0 0), V.lit (Value.slice none 0 0),
 V.lit (Value.slice none 0 0), V.lit (Value.slice none 0 0), V.lit (Value.slice none 0 0), V.lit (Value.slice none 0 0),
 V.lit (Value.slice none 0 0), V.lit (Value.slice none 0 0), V.lit (Value.slice none 0 0), V.lit (Value.slice none 0 0),
 V.lit (Value.slice none 0 0), V.lit (Value.slice none 0 0), V.lit (Value.slice none 0 0), V.lit (Value.slice none 0 0),
 V.lit (Value.slice none 0 0), V.lit (Value.slice none 0 0), V.lit (Value.slice none 0 0), V.lit (Value.slice none 0 0),
 V.lit (Value.slice none 0 0), V.lit (Value.slice none 0 0), V.lit (Value.slice none 0 0), V.lit (Value.slice none 0 0),
 V.lit (Value.slice none 0 0), V.lit (Value.slice none 0 0), V.lit (Value.slice none 0 0), V.lit (Value.slice none 0 0),
 V.lit (Value.slice none 0 0), V.lit (Value.slice none 0 0), V.lit (Value.slice none 0 0), V.lit (Value.slice none 0 0),
 V.sl 2 0 2 false, V.lit (Value.slice none 0 0), V.lit (Value.slice none 0 0), V.lit (Value.slice none 0 0),
 V.lit (Value.slice none 0 0), V.lit (Value.slice none 0 0), V.lit (Value.slice none 0 0), V.lit (Value.slice none 0 0),
 V.lit (Value.slice none 0 0), V.lit (Value.slice none 0 0), V.lit (Value.slice none 0 0), V.lit (Value.slice none 0 0),
 V.lit (Value.slice none 0 0), V.lit (Value.slice none 0 0), V.lit (Value.slice none 0 0), V.lit (Value.slice none 0 0),
 V.lit (Value.slice none 0 0), V.lit (Value.slice none 0 0), V.lit (Value.slice none 0 0), V.lit (Value.slice none 0 0),
 V.lit (Value.slice none 0 0), V.lit (Value.slice none 0 0), V.lit (Value.slice none 0 0), V.lit (Value.slice none 0 0),
 V.lit (Value.slice none 0 0), V.lit (Value.slice none 0 0), V.lit (Value.slice none 0 0), V.lit (Value.slice none 0 0),
 V.lit (Value.slice none 0 0), V.lit (Value.slice none 0 0), V.lit (Value.slice none 0 0), V.lit (Value.slice none 0 0),
 V.lit (Value.slice none 0 0), V.lit (Value.slice none 0 0), V.lit (Value.slice none 0 0), V.lit (Value.slice none 0 0),
 V.lit (Value.slice none 0 0), V.lit (Value.slice none 0 0), V.lit (Value.slice none 0 0), V.lit (Value.slice none 0 0),
 V.lit (Value.slice none 0 0), V.lit (Value.slice none 0 0), V.lit (Value.slice none 0 0), V.lit (Value.slice none 0 0),
 V.lit (Value.slice none 0 0), V.lit (Value.slice none 0 0), V.lit (Value.slice none 0 0), V.lit (Value.slice none 0 0),
 V.lit (Value.slice none 0 0), V.lit (Value.slice none 0 0), V.lit (Value.slice none 0 0), V.lit (Value.slice none 0 0),
 V.lit (Value.slice none 0 0), V.lit (Value.slice none 0 0), V.lit (Value.slice none 0 0), V.lit (Value.slice none 0 0),
 V.lit (Value.slice none 0 0), V.lit (Value.slice none 0 0), V.lit (Value.slice none 0 0), V.lit (Value.slice none 0 0),
 V.lit (Value.slice none 0 0), V.lit (Value.slice none 0 0), V.lit (Value.slice none 0 0), V.lit (Value.slice none 0 0),
 V.lit (Value.slice none 0 0), V.lit (Value.slice none 0 0), V.lit (Value.slice none 0 0), V.lit (Value.slice none 0 0),
 V.lit (Value.slice none 0 0), V.lit (Value.slice none 0 0), V.lit (Value.slice none 0 0), V.lit (Value.slice none 0 0),
 V.lit (Value.slice none 0 0), V.lit (Value.slice none 0 0), V.lit (Value.slice none 0 0), V.lit (Value.slice none 0 0),
 V.lit (Value.slice none 0 0), V.lit (Value.slice none 0 0), V.lit (Value.slice none 0 0), V.lit (Value.slice none 0 0),
 V.lit (Value.slice none 0 0), V.lit (Value.slice none 0 0), V.lit (Value.slice none 0 0), V.lit (Value.slice none 0 0),
 V.lit (Value.slice none 0 0), V.lit (Value.slice none 0 0), V.lit (Value.slice none 0 0), V.lit (Value.slice none 0 0),
 V.lit (Value.slice none 0 0), V.lit (Value.slice none 0 0), V.lit (Value.slice none 0 0), V.lit (Value.slice none 0 0),
 V.lit (Value.slice none 0 0), V.lit (Value.slice none 0 0), V.lit (Value.slice none 0 0), V.lit (Value.slice none 0 0),
 V.lit (Value.slice none 0 0), V.lit (Value.slice none 0 0), V.lit (Value.slice none 0 0), V.lit (Value.slice none 0 0),
 V.lit (Value.slice none 0 0), V.lit (Value.slice none 0 0), V.lit (Value.slice none 0 0), V.lit (Value.slice none 0 0),
 V.lit (Value.slice none 0 0), V.lit (Value.slice none 0 0), V.lit (Value.slice none 0 0), V.lit (Value.slice none 0 0),
 V.lit (Value.slice none 0 0), V.lit (Value.slice none 0 0), V.lit (Value.slice none 0 0), V.lit (Value.slice none 0 0),
 V.lit (Value.slice none 0 0), V.lit (Value.slice none 0 0), V.lit (Value.slice none 0 0), V.lit (Value.slice none 0 0),
 V.lit (Value.slice none 0 0), V.lit (Value.slice none 0 0), V.lit (Value.slice none 0 0), V.lit (Value.slice none 0 0),
 V.lit (Value.slice none 0 0), V.lit (Value.slice none 0 0), V.lit (Value.slice none 0 0), V.lit (Value.slice none 0 0),
 V.lit (Value.slice none 0 0), V.lit (Value.slice none 0 0), V.lit (Value.slice none 0 0), V.lit (Value.slice none 0 0),
 V.lit (Value.slice none 0 0), V.lit (Value.slice none 0 0), V.lit (Value.slice none 0 0), V.lit (Value.slice none 0 0),
 V.lit (Value.slice none 0 0), V.lit (Value.slice none 0 0), V.lit (Value.slice none 0 0), V.lit (Value.slice none 0 0),
 V.lit (Value.slice none 0 0), V.lit (Value.slice none 0 0), V.lit (Value.slice none 0 0), V.lit (Value.slice none 0 0),
 V.lit (Value.slice none 0 0), V.lit (Value.slice none 0 0), V.lit (Value.slice none 0 0), V.lit (Value.slice none 0 0),
 V.lit (Value.slice none 0 0), V.lit (Value.slice none 0 0), V.lit (Value.slice none 0 0), V.lit (Value.slice none 0 0),
 V.lit (Value.slice none 0 0), V.lit (Value.slice none 0 0), V.lit (Value.slice none 0 0), V.lit (Value.slice none 0 0),
 V.lit (Value.slice none 0 0), V.lit (Value.slice none 0 0), V.lit (Value.slice none 0 0), V.lit (Value.slice none 0 0),
 V.lit (Value.slice none 0 0), V.lit (Value.slice none 0 0), V.lit (Value.slice none 0 0), V.lit (Value.slice none 0 0),
 V.lit (Value.slice none 0 0), V.lit (Value.slice none 0 0), V.lit (Value.slice none 0 0), V.lit (Value.slice none 0 0),
 V.sl 3 0 2 false][0 + Int.toNat (↑(UInt8.toNat (List.getD t (Int.toNat i) (0 : UInt8))) : Int) * 1]? =
 some (V.sl 2 0 2 false)]
 T.fail)))))
 else
 T.done
 (Ex.exit 4,
 St.mk (mkTm 122 [(12, V.sl 4 0 (List.length B) fl)])
 [(repB 1),
 some ([V.sld [V.int IntKind.u8 (92 : Int), V.int IntKind.u8 (34 : Int)]], 5), some ([V.sld [V.int IntKind.u8 (92 : Int), V.int IntKind.u8 (92 : Int)]], 5),
 some ([V.str [92], V.str [34]], 9), bytBQ B]
 []) := by kernel_rfl
set_option maxRecDepth 100000 in
theorem cpEo (t B : List UInt8) (j i : Int) (fl : Bool) : bodyT (E116 (fun _ => 0) nilS) 4 nfE (lp Tryz.prog fByteRep 4) (stE t B j i fl) =
 bif decide (i < (↑(List.length t) : Int)) then
 T.need [(0 : Int) ≤ i ∧ i < (↑(List.length t) : Int)]
 (T.need [(0 : Int) ≤ (↑(UInt8.toNat (List.getD t (Int.toNat i) (0 : UInt8))) : Int) ∧ (↑(UInt8.toNat (List.getD t (Int.toNat i) (0 : UInt8))) : Int) < (256 : Int)]
 (T.need
 [[V.lit (Value.slice none 0 0), V.lit (Value.slice none 0 0), V.lit (Value.slice none 0 0), V.lit (Value.slice none 0 0),
 V.lit (Value.slice none 0 0), V.lit (Value.slice none 0 0), V.lit (Value.slice none 0 0), V.lit (Value.slice none 0 0),
 V.lit (Value.slice none 0 0), V.lit (Value.slice none 0 0), V.lit (Value.slice none 0 0), V.lit (Value.slice none 0 0),
 V.lit (Value.slice none 0 0), V.lit (Value.slice none 0 0), V.lit (Value.slice none 0 0), V.lit (Value.slice none 0 0),
 V.lit (Value.slice none 0 0), V.lit (Value.slice none 0 0), V.lit (Value.slice none 0 0), V.lit (Value.slice none 0 0),
 V.lit (Value.slice none 0 0), V.lit (Value.slice none 0 0), V.lit (Value.slice none 0 0), V.lit (Value.slice none 0 0),
 V.lit (Value.slice none 0 0), V.lit (Value.slice none 0 0), V.lit (Value.slice none 0 0), V.lit (Value.slice none 0 0),
 V.lit (Value.slice none 0 0), V.lit (Value.slice none 0 0), V.lit (Value.slice none 0 0), V.lit (Value.slice none 0 0),
 V.lit (Value.slice none 0 0), V.lit (Value.slice none 0 0), V.sl 1 0 2 false, V.lit (Value.slice none 0 0),
 V.lit (Value.slice none 0 0), V.lit (Value.slice none 0 0), V.lit (Value.slice none 0 0), V.lit (Value.slice none 0 0),
 V.lit (Value.slice none 0 0), V.lit (Value.slice none 0 0), V.lit (Value.slice none 0 0), V.lit (Value.slice none 0 0),
 V.lit (Value.slice none 0 0), V.lit (Value.slice none 0 0), V.lit (Value.slice none 0 0), V.lit (Value.slice none 0 0),
 V.lit (Value.slice none 0 0), V.lit (Value.slice none 0 0), V.lit (Value.slice none 0 0), V.lit (Value.slice none 0 0),
 V.lit (Value.slice none 0 0), V.lit (Value.slice none 0 0), V.lit (Value.slice none 0 0), V.lit (Value.slice none 0 0),
 V.lit (Value.slice none 0 0), V.lit (Value.slice none 0 0), V.lit (Value.slice none 0 0), V.lit (Value.slice none 0 0),
 V.lit (Value.slice none 0 0), V.lit (Value.slice none 0 0), V.lit (Value.slice none 0 0), V.lit (Value.slice none 0 0),
 V.lit (Value.slice none 0 0), V.lit (Value.slice none 0 0), V.lit (Value.slice none 0 0), V.lit (Value.slice none 0 0),
 V.lit (Value.slice none 0 0), V.lit (Value.slice none 0 0), V.lit (Value.slice none 0 0), V.lit (Value.slice none 0 0),
 V.lit (Value.slice none 0 0), V.lit (Value.slice none 0 0), V.lit (Value.slice none 0 0), V.lit (Value.slice none 0 0),
 V.lit (Value.slice none 0 0), V.lit (Value.slice none 0 0), V.lit (Value.slice none 0 0), V.lit (Value.slice none 0 0),
 V.lit (Value.slice none 0 0), V.lit (Value.slice none 0 0), V.lit (Value.slice none 0 0), V.lit (Value.slice none 0 0),
 V.lit (Value.slice none 0 0), V.lit (Value.slice none 0 0), V.lit (Value.slice none 0 0), V.lit (Value.slice none 0 0),
 V.lit (Value.slice none 0 0), V.lit (Value.slice none 0 0), V.lit (Value.slice none 0 0), V.lit (Value.slice none 0 0),
 V.sl 2 0 2 false, V.lit (Value.slice none 0 0), V.lit (Value.slice none 0 0), V.lit (Value.slice none 0 0),
 V.lit (Value.slice none 0 0), V.lit (Value.slice none 0 0), V.lit (Value.slice none 0 0), V.lit (Value.slice none 0 0),
 V.lit (Value.slice none 0 0), V.lit (Value.slice none 0 0), V.lit (Value.slice none 0 0), V.lit (Value.slice none 0 0),
 V.lit (Value.slice none 0 0), V.lit (Value.slice none 0 0), V.lit (Value.slice none 0 0), V.lit (Value.slice none 0 0),
 V.lit (Value.slice none 0 0), V.lit (Value.slice none 0 0), V.lit (Value.slice none 0 0), V.lit (Value.slice none 0 0),
 V.lit (Value.slice none 0 0), V.lit (Value.slice none 0 0), V.lit (Value.slice none 0 0), V.lit (Value.slice none 0 0),
 V.lit (Value.slice none 0 0), V.lit (Value.slice none 0 0), V.lit (Value.slice none 0 0), V.lit (Value.slice none 0 0),
 V.lit (Value.slice none 0 0), V.lit (Value.slice none 0 0), V.lit (Value.slice none 0 0), V.lit (Value.slice none 0 0),
 V.lit (Value.slice none 0 0), V.lit (Value.slice none 0 0), V.lit (Value.slice none 0 0), V.lit (Value.slice none 0 0),
 V.lit (Value.slice none 0 0), V.lit (Value.slice none 0 0), V.lit (Value.slice none 0 0), V.lit (Value.slice none 0 0),
 V.lit (Value.slice none 0 0), V.lit (Value.slice none 0 0), V.lit (Value.slice none 0 0), V.lit (Value.slice none 0 0),
 V.lit (Value.slice none 0 0), V.lit (Value.slice none 0 0), V.lit (Value.slice none 0 0), V.lit (Value.slice none 0 0),
 V.lit (Value.slice none 0 0), V.lit (Value.slice none 0 0), V.lit (Value.slice none 0 0), V.lit (Value.slice none 0 0),
 V.lit (Value.slice none 0 0), V.lit (Value.slice none 0 0), V.lit (Value.slice none 0 0), V.lit (Value.slice none 0 0),
 V.lit (Value.slice none 0 0), V.lit (Value.slice none 0 0), V.lit (Value.slice none 0 0), V.lit (Value.slice none 0 0),
 V.lit (Value.slice none 0 0), V.lit (Value.slice none 0 0), V.lit (Value.slice none 0 0), V.lit (Value.slice none 0 0),
 V.lit (Value.slice none 0 0), V.lit (Value.slice none 0 0), V.lit (Value.slice none 0 0), V.lit (Value.slice none 0 0),
 V.lit (Value.slice none 0 0), V.lit (Value.slice none 0 0), V.lit (Value.slice none 0 0), V.lit (Value.slice none 0 0),
 V.lit (Value.slice none 0 0), V.lit (Value.slice none 0 0), V.lit (Value.slice none 0 0), V.lit (Value.slice none 0 0),
 V.lit (Value.slice none 0 0), V.lit (Value.slice none 0 0), V.lit (Value.slice none 0 0), V.lit (Value.slice none 0 0),
 V.lit (Value.slice none 0 0), V.lit (Value.slice none 0 0), V.lit (Value.slice none 0 0), V.lit (Value.slice none 0 0),
 V.lit (Value.slice none 0 0), V.lit (Value.slice none 0 0), V.lit (Value.slice none 0 0), V.lit (Value.slice none 0 0),
 V.lit (Value.slice none 0 0), V.lit (Value.slice none 0 0), V.lit (Value.slice none 0 0), V.lit (Value.slice none 0 0),
 V.lit (Value.slice none 0 0), V.lit (Value.slice none 0 0), V.lit (Value.slice none 0 0), V.lit (Value.slice none 0 0),
 V.lit (Value.slice none 0 0), V.lit (Value.slice none 0 0), V.lit (Value.slice none 0 0), V.lit (Value.slice none 0 0),
 V.lit (Value.slice none 0 0), V.lit (Value.slice none 0 0), V.lit (Value.slice none 0 0), V.lit (Value.slice none 0 0),
 V.lit (Value.slice none 0 0), V.lit (Value.slice none 0 0), V.lit (Value.slice none 0 0), V.lit (Value.slice none 0 0),
 V.lit (Value.slice none 0 0), V.lit (Value.slice none 0 0), V.lit (Value.slice none 0 0), V.lit (Value.slice none 0 0),
 V.lit (Value.slice none 0 0), V.lit (Value.slice none 0 0), V.lit (Value.slice none 0 0), V.lit (Value.slice none 0 0),
 V.lit (Value.slice none 0 0), V.lit (Value.slice none 0 0), V.lit (Value.slice none 0 0), V.lit (Value.slice none 0 0),
 V.lit (Value.slice none 0 0), V.lit (Value.slice none 0 0), V.lit (Value.slice none 0 0), V.lit (Value.slice none 0 0),
 V.lit (Value.slice none 0 0), V.lit (Value.slice none 0 0), V.lit (Value.slice none 0 0), V.lit (Value.slice none 0 0),
 V.lit (Value.slice none 0 0), V.lit (Value.slice none 0 0), V.lit (Value.slice none 0 0), V.lit (Value.slice none 0 0),
 V.lit (Value.slice none 0 0), V.lit (Value.slice none 0 0), V.lit (Value.slice none 0 0), V.lit (Value.slice none 0 0),
 V.lit (Value.slice none 0 0), V.lit (Value.slice none 0 0), V.lit (Value.slice none 0 0), V.lit (Value.slice none 0 0),
 V.lit (Value.slice none 0 0), V.lit (Value.slice none 0 0), V.lit (Value.slice none 0 0), V.lit (Value.slice none 0 0),
 V.lit (Value.slice none 0 0), V.lit (Value.slice none 0 0), V.lit (Value.slice none 0 0), V.lit (Value.slice none 0 0),
 V.lit (Value.slice none 0 0), V.lit (Value.slice none 0 0), V.lit (Value.slice none 0 0), V.lit (Value.slice none 0 0),
 V.lit (Value.slice none 0 0), V.lit (Value.slice none 0 0), V.lit (Value.slice none 0 0), V.lit (Value.slice none 0 0),
 V.lit (Value.slice none 0 0), V.lit (Value.slice none 0 0), V.lit (Value.slice none 0 0), V.lit (Value.slice none 0 0),
 V.lit (Value.slice none 0 0), V.lit (Value.slice none 0 0), V.lit (Value.slice none 0 0), V.lit (Value.slice none 0 0),
 V.sl 3 0 2 false][0 + Int.toNat (↑(UInt8.toNat (List.getD t (Int.toNat i) (0 : UInt8))) : Int) * 1]? =
 some (V.lit (Value.slice none 0 0))]
 (T.need [(0 : Int) ≤ j ∧ j < (↑(List.length B) : Int)]
 (T.need [0 + Int.toNat j * 1 + 1 ≤ List.length (encs encByte B)]
 (T.done
 (Ex.normal,
 St.mk
 (mkTm 122
 [(0, V.ptr 0 0), (1, V.str t), (12, V.sl 4 0 (List.length B) fl), (13, V.int IntKind.i64 (IntKind.wrap IntKind.i64 (j + (1 : Int)))),
 (14, V.int IntKind.i64 (IntKind.wrap IntKind.i64 (i + (1 : Int))))])
 [(repB 1),
 some ([V.sld [V.int IntKind.u8 (92 : Int), V.int IntKind.u8 (34 : Int)]], 5), some ([V.sld [V.int IntKind.u8 (92 : Int), V.int IntKind.u8 (92 : Int)]], 5),
 some ([V.str [92], V.str [34]], 9),
 some
 ([V.sld
 (List.take (0 + Int.toNat j * 1) (encs encByte B) ++
 V.int IntKind.u8 (↑(UInt8.toNat (List.getD t (Int.toNat i) (0 : UInt8))) : Int) :: List.drop (0 + Int.toNat j * 1 + 1) (encs encByte B))],
 5)]
 []))))))
 else
 T.done
 (Ex.exit 4,
 St.mk (mkTm 122 [(12, V.sl 4 0 (List.length B) fl)])
 [(repB 1),
 some ([V.sld [V.int IntKind.u8 (92 : Int), V.int IntKind.u8 (34 : Int)]], 5), some ([V.sld [V.int IntKind.u8 (92 : Int), V.int IntKind.u8 (92 : Int)]], 5),
 some ([V.str [92], V.str [34]], 9), bytBQ B]
 []) := by kernel_rfl

end Go.Proofs.YtfncaghjfgnnhaaGreatDoor

namespace Go.Proofs.YtfncaghjfgnnhaaGreatDoor
open Go.RowKit
set_option maxRecDepth 100000

set_option maxRecDepth 100000 in
theorem repL_map (a b c : V) : repL a b c = (List.range 256).map (fun k => if k = 34 then a else if k = 92 then b else nilS) ++ [c] := by kernel_rfl
theorem repL_at (a b c : V) (k : Nat) (h : k < 256) : (repL a b c)[0 + Int.toNat (k : Int) * 1]? = some (if k = 34 then a else if k = 92 then b else nilS) := by
  have e : 0 + Int.toNat (k : Int) * 1 = k := by omega
  rw [e, repL_map, List.getElem?_append_left (by simp only [List.length_map, List.length_range]; exact h), List.getElem?_map, List.getElem?_range h]
  rfl

def spB (c : UInt8) : Bool := c == 34 || c == 92
theorem spB_iff (c : UInt8) : spB c = true ↔ c = 34 ∨ c = 92 := by simp [spB]
theorem escB_len (c : UInt8) : (escBQ c).length = if spB c then 2 else 1 := by
  unfold escBQ
  by_cases h1 : c = 34
  · rw [if_pos h1, if_pos ((spB_iff c).2 (.inl h1))]; rfl
  · by_cases h2 : c = 92
    · rw [if_neg h1, if_pos h2, if_pos ((spB_iff c).2 (.inr h2))]; rfl
    · rw [if_neg h1, if_neg h2, if_neg (fun h => by rcases (spB_iff c).1 h with h | h <;> contradiction)]; rfl
theorem escL_consQ (c : UInt8) (t : List UInt8) : escLQ (c :: t) = escBQ c ++ escLQ t := by simp [escLQ]
theorem escL_count (t : List UInt8) : (escLQ t).length = t.length + t.countP spB := by
  induction t with
  | nil => rfl
  | cons c t ih =>
    rw [escL_consQ, List.length_append, ih, escB_len, List.countP_cons, List.length_cons]
    split <;> omega
theorem escL_none (t : List UInt8) (h : t.any spB = false) : escLQ t = t := by
  induction t with
  | nil => rfl
  | cons c t ih =>
    simp only [List.any_cons, Bool.or_eq_false_iff] at h
    rw [escL_consQ, ih h.2]
    have h1 : ¬ (c = 34 ∨ c = 92) := fun hh => by rw [(spB_iff c).2 hh] at h; exact Bool.noConfusion h.1
    unfold escBQ
    rw [if_neg (fun e => h1 (.inl e)), if_neg (fun e => h1 (.inr e))]; rfl
theorem count_sp (t : List UInt8) : t.countP spB = t.count 92 + t.count 34 := by
  induction t with
  | nil => rfl
  | cons c t ih =>
    rw [List.countP_cons, List.count_cons, List.count_cons, ih]
    by_cases h1 : c = 34
    · subst h1; simp [spB]; omega
    · by_cases h2 : c = 92
      · subst h2; simp [spB]; omega
      · simp [spB, h1, h2]
theorem any_count (t : List UInt8) : t.any spB = (t.count 92 != 0 || t.count 34 != 0) := by
  have h1 : t.any spB = true ↔ 0 < t.countP spB := by
    rw [List.countP_pos_iff, List.any_eq_true]
  rw [count_sp] at h1
  rw [Bool.eq_iff_iff, h1]
  simp only [Bool.or_eq_true, bne_iff_ne, ne_eq]
  omega
theorem getD_drop (t : List UInt8) (i : Nat) (h : i < t.length) : t.drop i = t.getD i 0 :: t.drop (i + 1) := by
  rw [List.drop_eq_getElem_cons h, List.getD_eq_getElem?_getD, List.getElem?_eq_getElem h]; rfl

set_option maxRecDepth 100000 in
theorem cntC_loop (t : List UInt8) (ht : t.length ≤ 1048576) : ∀ (m i : Nat) (n : Nat) (b : Bool), i + m = t.length → n + m ≤ 4194304 →
    LoopTo Tryz.prog 4 (lp Tryz.prog fByteRep 2) (stC t i n b) (.exit 2) (stX t ((n + (t.drop i).countP spB : Nat) : Int) (b || (t.drop i).any spB))
  | 0, i, n, b, h1, h2 => by
    refine loopT (E := E116 (fun _ => 0) nilS) follows named (cntCo t i n b) ?_
    simp only [WP_cond, T.WP, All, decide_eq_true_eq, decide_eq_false_iff_not, and_true, beq_iff_eq, beq_eq_false_iff_ne, ne_eq]
    obtain rfl : i = t.length := h1
    refine ⟨fun h => by omega, fun _ => ⟨rfl, ?_⟩⟩
    rw [List.drop_length]
    simp only [List.countP_nil, List.any_nil, Bool.or_false, Nat.add_zero]
    rfl
  | m + 1, i, n, b, h1, h2 => by
    have hi : i < t.length := by omega
    have hd := getD_drop t i hi
    have hc := (t.getD i 0).toNat_lt
    have tab := fun a b c => repL_at a b c (t.getD i 0).toNat hc
    by_cases e1 : t.getD i 0 = 34
    · refine loopT (E := E116 (fun _ => 0) (.sl 1 0 2 false)) follows named (cntC34 t i n b) ?_
      simp only [WP_cond, T.WP, All, decide_eq_true_eq, decide_eq_false_iff_not, and_true, beq_iff_eq, beq_eq_false_iff_ne, ne_eq, Int.toNat_natCast]
      have k1 : (t.getD i 0).toNat = 34 := by rw [e1]; rfl
      have ih := cntC_loop t ht m (i + 1) (n + 1) true (by omega) (by omega)
      rw [hd, List.countP_cons, List.any_cons, (spB_iff _).2 (.inl e1), if_pos rfl]
      rw [show (n + 1 + (t.drop (i + 1)).countP spB) = n + ((t.drop (i + 1)).countP spB + 1) by omega] at ih
      simp only [Bool.true_or, Bool.or_true] at ih ⊢
      simp only [k1]
      refine ⟨fun _ => ⟨by omega, by omega, rfl, by omega, rfl, ?_⟩, fun h => by omega⟩
      rw [wrap_succ (by omega), wrap_succ (by omega)]
      exact ih
    · by_cases e2 : t.getD i 0 = 92
      · refine loopT (E := E116 (fun _ => 0) (.sl 2 0 2 false)) follows named (cntC92 t i n b) ?_
        simp only [WP_cond, T.WP, All, decide_eq_true_eq, decide_eq_false_iff_not, and_true, beq_iff_eq, beq_eq_false_iff_ne, ne_eq, Int.toNat_natCast]
        have k1 : (t.getD i 0).toNat = 92 := by rw [e2]; rfl
        have ih := cntC_loop t ht m (i + 1) (n + 1) true (by omega) (by omega)
        rw [hd, List.countP_cons, List.any_cons, (spB_iff _).2 (.inr e2), if_pos rfl]
        rw [show (n + 1 + (t.drop (i + 1)).countP spB) = n + ((t.drop (i + 1)).countP spB + 1) by omega] at ih
        simp only [Bool.true_or, Bool.or_true] at ih ⊢
        simp only [k1]
        refine ⟨fun _ => ⟨by omega, by omega, rfl, by omega, rfl, ?_⟩, fun h => by omega⟩
        rw [wrap_succ (by omega), wrap_succ (by omega)]
        exact ih
      · have hs : spB (t.getD i 0) = false := by
          cases hh : spB (t.getD i 0) with
          | false => rfl
          | true => rcases (spB_iff _).1 hh with h | h <;> contradiction
        have k1 : ¬ (t.getD i 0).toNat = 34 := fun h => e1 (UInt8.toNat_inj.1 h)
        have k2 : ¬ (t.getD i 0).toNat = 92 := fun h => e2 (UInt8.toNat_inj.1 h)
        refine loopT (E := E116 (fun _ => 0) nilS) follows named (cntCo t i n b) ?_
        simp only [WP_cond, T.WP, All, decide_eq_true_eq, decide_eq_false_iff_not, and_true, beq_iff_eq, beq_eq_false_iff_ne, ne_eq, Int.toNat_natCast]
        have ih := cntC_loop t ht m (i + 1) n b (by omega) (by omega)
        rw [hd, List.countP_cons, List.any_cons, hs, if_neg (by simp), Nat.add_zero, Bool.false_or]
        have tab0 := tab (.sl 1 0 2 false) (.sl 2 0 2 false) (.sl 3 0 2 false)
        rw [if_neg k1, if_neg k2] at tab0
        refine ⟨fun _ => ⟨by omega, by omega, tab0, ?_⟩, fun h => by omega⟩
        rw [wrap_succ (by omega)]
        exact ih

set_option maxRecDepth 100000 in
theorem cntA_loop (hC : ∀ (t : List UInt8) (c : UInt8), FnOK Tryz.prog fCount [.str t, .str [c]] [] ⟨.int .i64 (t.count c : Nat), [], []⟩) (t : List UInt8) (ht : t.length ≤ 1048576) (n : Nat) (hn : n ≤ 1048576) :
    LoopTo Tryz.prog 4 (lp Tryz.prog fByteRep 0) (stA t 0 n false) (.exit 0) (stX t ((n + t.countP spB : Nat) : Int) (t.any spB)) := by
  have c1 : t.count 92 ≤ t.length := List.count_le_length ..
  have c2 : t.count 34 ≤ t.length := List.count_le_length ..
  have last : ∀ (k : Nat) (b : Bool), LoopTo Tryz.prog 4 (lp Tryz.prog fByteRep 0) (stA t 2 k b) (.exit 0) (stX t k b) := by
    intro k b
    refine loopT (E := E116 (fun c => t.count c) nilS) follows named (cntA2 (fun c => t.count c) t k b) ?_
    simp only [WP_cond, T.WP, All, decide_eq_true_eq, decide_eq_false_iff_not, and_true, beq_iff_eq, beq_eq_false_iff_ne, ne_eq]
    exact ⟨rfl, rfl⟩
  have mid : ∀ (k : Nat) (b : Bool), k ≤ 2097152 → LoopTo Tryz.prog 4 (lp Tryz.prog fByteRep 0) (stA t 1 k b) (.exit 0) (stX t ((k + t.count 34 : Nat) : Int) (b || t.count 34 != 0)) := by
    intro k b hk
    refine loopT (E := E116 (fun c => t.count c) nilS) follows named (cntA1 (fun c => t.count c) t k b) ?_
    simp only [WP_cond, T.WP, All, decide_eq_true_eq, decide_eq_false_iff_not, and_true, beq_iff_eq, beq_eq_false_iff_ne, ne_eq]
    refine ⟨by omega, fun y e => ?_⟩
    subst e
    refine ⟨hC t 34, fun h => ⟨by omega, by omega, ?_⟩, fun h => ?_⟩
    · have h0 : (t.count 34 != 0) = true := by rw [bne_iff_ne] at h ⊢; omega
      have e : ((k : Int) + ((t.count 34 : Nat) : Int)) = ((k + t.count 34 : Nat) : Int) := by omega
      have := last (k + t.count 34) true
      rw [Int.mul_one, wrap_nat (by omega), e, wrap_nat (by omega), h0, Bool.or_true]
      exact this
    · have h1 : t.count 34 = 0 := by have := bne_eq_false_iff_eq.1 h; omega
      have := last k b
      rw [h1, Nat.add_zero]
      simp only [bne_self_eq_false, Bool.or_false]
      exact this
  refine loopT (E := E116 (fun c => t.count c) nilS) follows named (cntA0 (fun c => t.count c) t n false) ?_
  simp only [WP_cond, T.WP, All, decide_eq_true_eq, decide_eq_false_iff_not, and_true, beq_iff_eq, beq_eq_false_iff_ne, ne_eq]
  refine ⟨by omega, fun y e => ?_⟩
  subst e
  rw [any_count, count_sp]
  refine ⟨hC t 92, fun h => ⟨by omega, by omega, ?_⟩, fun h => ?_⟩
  · have h0 : (t.count 92 != 0) = true := by rw [bne_iff_ne] at h ⊢; omega
    have e : ((n : Int) + ((t.count 92 : Nat) : Int)) = ((n + t.count 92 : Nat) : Int) := by omega
    have := mid (n + t.count 92) true (by omega)
    rw [Int.mul_one, wrap_nat (by omega), e, wrap_nat (by omega), h0]
    rw [Nat.add_assoc] at this
    exact this
  · have h1 : t.count 92 = 0 := by have := bne_eq_false_iff_eq.1 h; omega
    have := mid n false (by omega)
    rw [h1, Nat.zero_add]
    simp only [bne_self_eq_false]
    exact this

set_option maxRecDepth 100000 in
theorem cp_loop (t : List UInt8) (ht : t.length ≤ 1048576) (fl : Bool) : ∀ (m : Nat) (done rest : List UInt8) (i : Nat), i + m = t.length → rest.length = (escLQ (t.drop i)).length → done.length + rest.length ≤ 4194304 →
    LoopTo Tryz.prog 4 (lp Tryz.prog fByteRep 4) (stE t (done ++ rest) done.length i fl) (.exit 4) (stY (done ++ escLQ (t.drop i)) fl)
  | 0, done, rest, i, h1, h2, h3 => by
    refine loopT (E := E116 (fun _ => 0) nilS) follows named (cpEo t (done ++ rest) done.length i fl) ?_
    simp only [WP_cond, T.WP, All, decide_eq_true_eq, decide_eq_false_iff_not, and_true, beq_iff_eq, beq_eq_false_iff_ne, ne_eq]
    obtain rfl : i = t.length := h1
    rw [List.drop_length] at h2 ⊢
    obtain rfl : rest = [] := List.eq_nil_of_length_eq_zero h2
    exact ⟨fun h => by omega, fun _ => ⟨rfl, rfl⟩⟩
  | m + 1, done, rest, i, h1, h2, h3 => by
    have hi : i < t.length := by omega
    have hd := getD_drop t i hi
    have hc := (t.getD i 0).toNat_lt
    rw [hd, escL_consQ, List.length_append] at h2
    have ih := fun rest' h => cp_loop t ht fl m (done ++ escBQ (t.getD i 0)) rest' (i + 1) (by omega) h
    have hlen : (done ++ rest).length = done.length + rest.length := List.length_append
    have henc := layByte.length (done ++ rest)
    by_cases e1 : t.getD i 0 = 34
    · have k1 : (t.getD i 0).toNat = 34 := by rw [e1]; rfl
      have e : escBQ (t.getD i 0) = [92, 34] := by rw [e1]; rfl
      rw [e] at h2 ih
      obtain ⟨x, y, rest', rfl⟩ : ∃ x y r, rest = x :: y :: r := by
        match rest, h2 with
        | x :: y :: r, _ => exact ⟨x, y, r, rfl⟩
        | [_], h2 => simp at h2; omega
        | [], h2 => simp at h2; omega
      refine loopT (E := E116 (fun _ => 0) (.sl 1 0 2 false)) follows named (cpE34 t (done ++ x :: y :: rest') done.length i fl) ?_
      simp only [WP_cond, T.WP, All, decide_eq_true_eq, decide_eq_false_iff_not, and_true, beq_iff_eq, beq_eq_false_iff_ne, ne_eq, Int.toNat_natCast]
      simp only [k1]
      simp only [List.length_cons, List.length_nil] at h2 h3 hlen
      refine ⟨fun _ => ⟨by omega, by omega, rfl, fun _ => ⟨by omega, by omega, rfl, ⟨by omega, by omega⟩, ?_⟩, fun h => by omega⟩, fun h => by omega⟩
      have g := ih rest' (by omega) (by simp only [List.length_append, List.length_cons, List.length_nil]; omega)
      rw [hd, escL_consQ, e, ← List.append_assoc]
      rw [wrap_succ (by omega), show ((done.length : Int) + 2) = ((done.length + 2 : Nat) : Int) by omega, wrap_nat (by omega)]
      have ee : List.take (0 + done.length * 1) (encs encByte (done ++ x :: y :: rest')) ++ V.int IntKind.u8 92 :: V.int IntKind.u8 34 :: List.drop (0 + done.length * 1 + 2) (encs encByte (done ++ x :: y :: rest')) = encs encByte (done ++ [92, 34] ++ rest') := by
        rw [show 0 + done.length * 1 = done.length * 1 by omega, show done.length * 1 + 2 = (done.length + 2) * 1 by omega, layByte.take, layByte.drop, List.take_left, ← List.drop_drop, List.drop_left, encs_append, encs_append]
        simp [encs, encByte]
      have el : (done ++ x :: y :: rest').length = (done ++ [92, 34] ++ rest').length := by simp
      rw [ee, el]
      rw [show (done ++ ([92, 34] : List UInt8)).length = done.length + 2 from List.length_append] at g
      exact g
    · by_cases e2 : t.getD i 0 = 92
      · have k1 : (t.getD i 0).toNat = 92 := by rw [e2]; rfl
        have e : escBQ (t.getD i 0) = [92, 92] := by rw [e2]; rfl
        rw [e] at h2 ih
        obtain ⟨x, y, rest', rfl⟩ : ∃ x y r, rest = x :: y :: r := by
          match rest, h2 with
          | x :: y :: r, _ => exact ⟨x, y, r, rfl⟩
          | [_], h2 => simp at h2; omega
          | [], h2 => simp at h2; omega
        refine loopT (E := E116 (fun _ => 0) (.sl 2 0 2 false)) follows named (cpE92 t (done ++ x :: y :: rest') done.length i fl) ?_
        simp only [WP_cond, T.WP, All, decide_eq_true_eq, decide_eq_false_iff_not, and_true, beq_iff_eq, beq_eq_false_iff_ne, ne_eq, Int.toNat_natCast]
        simp only [k1]
        simp only [List.length_cons, List.length_nil] at h2 h3 hlen
        refine ⟨fun _ => ⟨by omega, by omega, rfl, fun _ => ⟨by omega, by omega, rfl, ⟨by omega, by omega⟩, ?_⟩, fun h => by omega⟩, fun h => by omega⟩
        have g := ih rest' (by omega) (by simp only [List.length_append, List.length_cons, List.length_nil]; omega)
        rw [hd, escL_consQ, e, ← List.append_assoc]
        rw [wrap_succ (by omega), show ((done.length : Int) + 2) = ((done.length + 2 : Nat) : Int) by omega, wrap_nat (by omega)]
        have ee : List.take (0 + done.length * 1) (encs encByte (done ++ x :: y :: rest')) ++ V.int IntKind.u8 92 :: V.int IntKind.u8 92 :: List.drop (0 + done.length * 1 + 2) (encs encByte (done ++ x :: y :: rest')) = encs encByte (done ++ [92, 92] ++ rest') := by
          rw [show 0 + done.length * 1 = done.length * 1 by omega, show done.length * 1 + 2 = (done.length + 2) * 1 by omega, layByte.take, layByte.drop, List.take_left, ← List.drop_drop, List.drop_left, encs_append, encs_append]
          simp [encs, encByte]
        have el : (done ++ x :: y :: rest').length = (done ++ [92, 92] ++ rest').length := by simp
        rw [ee, el]
        rw [show (done ++ ([92, 92] : List UInt8)).length = done.length + 2 from List.length_append] at g
        exact g
      · have k1 : ¬ (t.getD i 0).toNat = 34 := fun h => e1 (UInt8.toNat_inj.1 h)
        have k2 : ¬ (t.getD i 0).toNat = 92 := fun h => e2 (UInt8.toNat_inj.1 h)
        have tab0 := repL_at (.sl 1 0 2 false) (.sl 2 0 2 false) (.sl 3 0 2 false) (t.getD i 0).toNat hc
        rw [if_neg k1, if_neg k2] at tab0
        generalize hg : t.getD i 0 = c at *
        have e : escBQ c = [c] := by unfold escBQ; rw [if_neg e1, if_neg e2]
        rw [e] at h2 ih
        obtain ⟨x, rest', rfl⟩ : ∃ x r, rest = x :: r := by
          match rest, h2 with
          | x :: r, _ => exact ⟨x, r, rfl⟩
          | [], h2 => simp at h2; omega
        refine loopT (E := E116 (fun _ => 0) nilS) follows named (cpEo t (done ++ x :: rest') done.length i fl) ?_
        simp only [WP_cond, T.WP, All, decide_eq_true_eq, decide_eq_false_iff_not, and_true, beq_iff_eq, beq_eq_false_iff_ne, ne_eq, Int.toNat_natCast, hg]
        simp only [List.length_cons, List.length_nil] at h2 h3 hlen
        refine ⟨fun _ => ⟨by omega, by omega, tab0, by omega, by omega, ?_⟩, fun h => by omega⟩
        have g := ih rest' (by omega) (by simp only [List.length_append, List.length_cons, List.length_nil]; omega)
        rw [hd, escL_consQ, e, ← List.append_assoc]
        rw [wrap_succ (by omega), wrap_succ (by omega)]
        have ee : List.take (0 + done.length * 1) (encs encByte (done ++ x :: rest')) ++ V.int IntKind.u8 (c.toNat : Int) :: List.drop (0 + done.length * 1 + 1) (encs encByte (done ++ x :: rest')) = encs encByte (done ++ [c] ++ rest') := by
          rw [show 0 + done.length * 1 = done.length * 1 by omega, show done.length * 1 + 1 = (done.length + 1) * 1 by omega, layByte.take, layByte.drop, List.take_left, ← List.drop_drop, List.drop_left, encs_append, encs_append]
          simp [encs, encByte]
        have el : (done ++ x :: rest').length = (done ++ [c] ++ rest').length := by simp
        rw [ee, el]
        rw [show (done ++ ([c] : List UInt8)).length = done.length + 1 from List.length_append] at g
        exact g

end Go.Proofs.YtfncaghjfgnnhaaGreatDoor

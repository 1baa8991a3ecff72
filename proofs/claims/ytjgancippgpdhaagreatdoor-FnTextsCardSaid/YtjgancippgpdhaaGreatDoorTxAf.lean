/-
  strings.NewReplacer and its Replace, as the program uses them.
-/
import Derived.Test.YtjgancippgpdhaaGreatDoorTxAe
namespace Go.Proofs.YtjgancippgpdhaaGreatDoor
open Go.RowKit
set_option maxRecDepth 100000

abbrev fQuoted : Nat := 49
abbrev fNewRep : Nat := 73
abbrev fReplace : Nat := 74
abbrev fByteRep : Nat := 218
abbrev tRep : Nat := 116
abbrev tByteRep : Nat := 155
abbrev tPByteRep : Nat := 156
def oldB : Option Blk := some ([.sld [], .str [34], .str [92, 34], .str [92], .str [92, 92]], 9)
def strs4 : Option Blk := some ([.str [34], .str [92, 34], .str [92], .str [92, 92]], 9)
def nilS : V := .lit (.slice none 0 0)
/-- The table: what takes a byte's place. -/
def repL (a b c : V) : List V := List.replicate 34 nilS ++ [a] ++ List.replicate 57 nilS ++ [b] ++ List.replicate 163 nilS ++ [c]
def repB (k : Nat) : Option Blk := some (repL (.sl k 0 2 false) (.sl (k + 1) 0 2 false) (.sl (k + 2) 0 2 false), tByteRep)
def s34 : Option Blk := some ([.sld [.int .u8 92, .int .u8 34]], 5)
def s92 : Option Blk := some ([.sld [.int .u8 92, .int .u8 92]], 5)
def trB : Option Blk := some ([.str [92], .str [34]], 9)

set_option maxRecDepth 100000 in
theorem newRep_ok : FnOK Tryz.prog fNewRep [.sl 0 0 4 true] [strs4] ⟨.ptr 1 0, [strs4, some ([.int .u32 0, .int .i32 0, .int .u32 0, .lit .nilIface, .sl 2 0 4 false], tRep), oldB], []⟩ := deepN_ok (by kernel_rfl)
set_option maxRecDepth 100000 in
theorem build_ok : FnOK Tryz.prog fBuildOnce [.ptr 0 0] [some ([.int .u32 0, .int .i32 1, .int .u32 0, .lit .nilIface, .sl 1 0 4 false], tRep), oldB] ⟨.tup [], [some ([.int .u32 0, .int .i32 1, .int .u32 0, .box (.iface tPByteRep) [.ptr 2 0], .dsl 0 true []], tRep), oldB, repB 3, s34, s92, trB], [0]⟩ := deepN_ok (by kernel_rfl)
theorem do_ok : FnOK Tryz.prog fDo [.ptr 0 0, .box (.bound fBuildOnce 1) [.ptr 0 0]] [some ([.int .u32 0, .int .i32 0, .int .u32 0, .lit .nilIface, .sl 1 0 4 false], tRep), oldB] ⟨.tup [], [some ([.int .u32 1, .int .i32 0, .int .u32 0, .box (.iface tPByteRep) [.ptr 2 0], .dsl 0 true []], tRep), oldB, repB 3, s34, s92, trB], [0, 0]⟩ :=
  FnOK.once rfl rfl build_ok

theorem replaceIs : MethodIs Tryz.prog tPByteRep "Replace" fByteRep := fun v args w => by kernel_rfl

/-- What is to be shown of the library's Replace over bytes. -/
def ByteRep (g : List UInt8 → List UInt8) (n : Nat) : Prop := ∀ t : List UInt8, t.length ≤ n → FnOK Tryz.prog fByteRep [.ptr 0 0, .str t] [repB 1, s34, s92, trB] ⟨.str (g t), [repB 1, s34, s92, trB], []⟩

noncomputable def resRep (g : List UInt8 → List UInt8) : ResT := fun f vs _ => match vs with
  | [.sl 0 0 4 true] => bif Nat.beq f fNewRep then some ⟨(), fun _ => ⟨.ptr 1 0, [strs4, some ([.int .u32 0, .int .i32 0, .int .u32 0, .lit .nilIface, .sl 2 0 4 false], tRep), oldB], []⟩⟩ else none
  | [.ptr 0 0, .box _ _] => bif Nat.beq f fDo then some ⟨(), fun _ => ⟨.tup [], [some ([.int .u32 1, .int .i32 0, .int .u32 0, .box (.iface tPByteRep) [.ptr 2 0], .dsl 0 true []], tRep), oldB, repB 3, s34, s92, trB], [0, 0]⟩⟩ else none
  | [.ptr 0 0, .str t] => bif Nat.beq f fByteRep then some ⟨g t, fun y => ⟨.str y, [repB 1, s34, s92, trB], []⟩⟩
      else bif Nat.beq f fReplace then some ⟨g t, fun y => ⟨.str y, [none, none], [0, 1]⟩⟩ else none
  | _ => none
noncomputable def ERep (g : List UInt8 → List UInt8) : Env := { P := Tryz.prog, vw := fun _ _ _ => none, res := resRep g, mt := [(tPByteRep, "Replace", fByteRep)] }

set_option maxRecDepth 100000 in
theorem replaceT (g : List UInt8 → List UInt8) (t : List UInt8) : fnT (ERep g) 2 fReplace [.ptr 0 0, .str t] [some ([.int .u32 0, .int .i32 0, .int .u32 0, .lit .nilIface, .sl 1 0 4 false], tRep), oldB] =
  T.bind PUnit.unit fun _ =>
    T.need
      [FnOK (Env.P (ERep g)) 97 [V.ptr 0 0, V.box (BK.bound 98 1) [V.ptr 0 0]]
          [some ([V.int IntKind.u32 (0 : Int), V.int IntKind.i32 (0 : Int), V.int IntKind.u32 (0 : Int), V.lit Value.nilIface, V.sl 1 0 4 false], 116),
            some ([V.sld [], V.str [34], V.str [92, 34], V.str [92], V.str [92, 92]], 9)]
          (Ret.mk (V.tup [])
            [some ([V.int IntKind.u32 (1 : Int), V.int IntKind.i32 (0 : Int), V.int IntKind.u32 (0 : Int), V.box (BK.iface 156) [V.ptr 2 0], V.dsl 0 true []], 116),
              some ([V.sld [], V.str [34], V.str [92, 34], V.str [92], V.str [92, 92]], 9),
              some
                ([V.lit (Value.slice none 0 0), V.lit (Value.slice none 0 0), V.lit (Value.slice none 0 0), V.lit (Value.slice none 0 0),
                    V.lit (Value.slice none 0 0), V.lit (Value.slice none 0 0), V.lit (Value.slice none 0 0), V.lit (Value.slice none 0 0),
                    V.lit (Value.slice none 0 0), V.lit (Value.slice none 0 0), V.lit (Value.slice none 0 0), V.lit (Value.slice none 0 0),
                    V.lit (Value.slice none 0 0), V.lit (Value.slice none 0 0), V.lit (Value.slice none 0 0), V.lit (Value.slice none 0 0),
                    V.lit (Value.slice none 0 0), V.lit (Value.slice none 0 0), V.lit (Value.slice none 0 0), V.lit (Value.slice none 0 0),
                    V.lit (Value.slice none 0 0), V.lit (Value.slice none 0 0), V.lit (Value.slice none 0 0), V.lit (Value.slice none 0 0),
                    V.lit (Value.slice none 0 0), V.lit (Value.slice none 0 0), V.lit (Value.slice none 0 0), V.lit (Value.slice none 0 0),
                    V.lit (Value.slice none 0 0), V.lit (Value.slice none 0 0), V.lit (Value.slice none 0 0), V.lit (Value.slice none 0 0),
                    V.lit (Value.slice none 0 0), V.lit (Value.slice none 0 0), V.sl 3 0 2 false, V.lit (Value.slice none 0 0),
                    V.lit (Value.slice none 0 0), V.lit (Value.slice none 0 0), V.lit (Value.slice none 0 0), V.lit (Value.slice none 0 0),
                    V.lit (Value.slice none 0 0), V.lit (Value.slice none 0 0), V.lit (Value.slice none 0 0), V.lit (Value.slice none 0 0),
                    V.lit (Value.slice none 0 0), V.lit (Value.slice none 0 0), V.lit (Value.slice none 0 0), V.lit (Value.slice none 0 0),
                    V.lit (Value.slice none 0 0), V.lit (Value.slice none 0 0), V.lit (Value.slice none 0 0), V.lit (Value.slice none 0 0),
                    V.lit (Value.slice none 0 0), V.lit (Value.slice none 0 0), V.lit (Value.slice none 0 0), V.lit (Value.slice none 0 0),
                    V.lit (Value.slice none 0 0), V.lit (Value.slice none 0 0), V.lit (Value.slice none 0 0), V.lit (Value.slice none 0 0),
                    V.lit (Value.slice none 0 0), V.lit (Value.slice none 0 0), V.lit (Value.slice none 0 0), V.lit (Value.slice none 0 0),
                    V.lit (Value.slice none 0 0), V.lit (Value.slice none 0 0), V.lit (Value.slice none 0 0), V.lit (Value.slice none 0 0),
                    V.lit (Value.slice none 0 0), V.lit (Value.slice none 0 0), V.lit (Value.slice none 0 0), V.lit (Value.slice none 0 0),
                    V.lit (Value.slice none 0 0), V.lit (Value.slice none 0 0), V.lit (Value.slice none 0 0), V.lit (Value.slice none 0 0),
                    V.lit (Value.slice none 0 0), V.lit (Value.slice none 0 0), V.lit (Value.slice none 0 0), V.lit (Value.slice none 0 0),
                    V.lit (Value.slice none 0 0), V.lit (Value.slice none 0 0), V.lit (Value.slice none 0 0), V.lit (Value.slice none 0 0),
                    V.lit (Value.slice none 0 0), V.lit (Value.slice none 0 0), V.lit (Value.slice none 0 0), V.lit (Value.slice none 0 0),
                    V.lit (Value.slice none 0 0), V.lit (Value.slice none 0 0), V.lit (Value.slice none 0 0), V.lit (Value.slice none 0 0),
                    V.sl 4 0 2 false, V.lit (Value.slice none 0 0), V.lit (Value.slice none 0 0), V.lit (Value.slice none 0 0),
                    V.lit (Value.slice none 0 0), V.lit (Value.slice none 0 0), V.lit (Value.slice none 0 0), V.lit (Value.slice none 0 0),
                    V.lit (Value.slice none 0 0), V.lit (Value.slice none 0 0), V.lit (Value.slice none 0 0), V.lit (Value.slice none 0 0),
                    V.lit (Value.slice none 0 0), V.lit (Value.slice none 0 0), V.lit (Value.slice none 0 0), V.lit (Value.slice none 0 0),
                    V.lit (Value.slice none 0 0), V.lit (Value.slice none 0 0), V.lit (Value.slice none 0 0), V.lit (Value.slice none 0 0),
                    V.lit (Value.slice none 0 0), V.lit (Value.slice none 0 0), V.lit (Value.slice none 0 0), V.lit (Value.slice none 0 0),
                    V.lit (Value.slice none 0 0), V.lit (Value.slice none 0 0), V.lit (Value.slice none 0 0), V.lit (Value.slice none 0 0),
                    V.lit (Value.slice none 0 0), V.lit (Value.slice none 0 0), V.lit (Value.slice none 0 0), V.lit (Value.slice none 0 0),
                    V.lit (Value.slice none 0 0), V.lit (Value.slice none 0 0), V.lit (Value.slice none 0 0), V.lit (Value.slice none 0 0),
                    V.lit (Value.slice none 0 0), V.lit (Value.slice none 0 0), V.lit (Value.slice none 0 0), V.lit (Value.slice none 0 0),
                    V.lit (Value.slice none 0 0), V.lit (Value.slice none 0 0), V.lit (Value.slice none 0 0), V.lit (Value.slice none 0 0),
                    V.lit (Value.slice none 0 0), V.lit (Value.slice none 0 0), V.lit (Value.slice none 0 0), V.lit (Value.slice none 0 0),
                    V.lit (Value.slice none 0 0), V.lit (Value.slice none 0 0), V.lit (Value.slice none 0 0), V.lit (Value.slice none 0 0),
                    V.lit (Value.slice none 0 0), V.lit (Value.slice none 0 0), V.lit (Value.slice none 0 0), V.lit (Value.slice none 0 0),
                    V.lit (Value.slice none 0 0), V.lit (Value.slice none 0 0), V.lit (Value.slice none 0 0), V.lit (Value.slice none 0 0),
                    V.lit (Value.slice none 0 0), V.lit (Value.slice none 0 0), V.lit (Value.slice none 0 0), V.lit (Value.slice none 0 0),
                    V.lit (Value.slice none 0 0), V.lit (Value.slice none 0 0), V.lit (Value.slice none 0 0), V.lit (Value.slice none 0 0),
                    V.lit (Value.slice none 0 0), V.lit (Value.slice none 0 0), V.lit (Value.slice none 0 0), V.lit (Value.slice none 0 0),
                    V.lit (Value.slice none 0 0), V.lit (Value.slice none 0 0), V.lit (Value.slice none 0 0), V.lit (Value.slice none 0 0),
                    V.lit (Value.slice none 0 0), V.lit (Value.slice none 0 0), V.lit (Value.slice none 0 0), V.lit (Value.slice none 0 0),
                    V.lit (Value.slice none 0 0), V.lit (Value.slice none 0 0), V.lit (Value.slice none 0 0), V.lit (Value.slice none 0 0),
                    V.lit (Value.slice none 0 0), V.lit (Value.slice none 0 0), V.lit (Value.slice none 0 0), V.lit (Value.slice none 0 0),
                    V.lit (Value.slice none 0 0), V.lit (Value.slice none 0 0), V.lit (Value.slice none 0 0), V.lit (Value.slice none 0 0),
                    V.lit (Value.slice none 0 0), V.lit (Value.slice none 0 0), V.lit (Value.slice none 0 0), V.lit (Value.slice none 0 0),
                    V.lit (Value.slice none 0 0), V.lit (Value.slice none 0 0), V.lit (Value.slice none 0 0), V.lit (Value.slice none 0 0),
                    V.lit (Value.slice none 0 0), V.lit (Value.slice none 0 0), V.lit (Value.slice none 0 0), V.lit (Value.slice none 0 0),
                    V.lit (Value.slice none 0 0), V.lit (Value.slice none 0 0), V.lit (Value.slice none 0 0), V.lit (Value.slice none 0 0),
                    V.lit (Value.slice none 0 0), V.lit (Value.slice none 0 0), V.lit (Value.slice none 0 0), V.lit (Value.slice none 0 0),
                    V.lit (Value.slice none 0 0), V.lit (Value.slice none 0 0), V.lit (Value.slice none 0 0), V.lit (Value.slice none 0 0),
                    V.lit (Value.slice none 0 0), V.lit (Value.slice none 0 0), V.lit (Value.slice none 0 0), V.lit (Value.slice none 0 0),
                    V.lit (Value.slice none 0 0), V.lit (Value.slice none 0 0), V.lit (Value.slice none 0 0), V.lit (Value.slice none 0 0),
                    V.lit (Value.slice none 0 0), V.lit (Value.slice none 0 0), V.lit (Value.slice none 0 0), V.lit (Value.slice none 0 0),
                    V.lit (Value.slice none 0 0), V.lit (Value.slice none 0 0), V.lit (Value.slice none 0 0), V.lit (Value.slice none 0 0),
                    V.lit (Value.slice none 0 0), V.lit (Value.slice none 0 0), V.lit (Value.slice none 0 0), V.lit (Value.slice none 0 0),
                    V.lit (Value.slice none 0 0), V.lit (Value.slice none 0 0), V.lit (Value.slice none 0 0), V.lit (Value.slice none 0 0),
                    V.lit (Value.slice none 0 0), V.lit (Value.slice none 0 0), V.lit (Value.slice none 0 0), V.lit (Value.slice none 0 0),
                    V.lit (Value.slice none 0 0), V.lit (Value.slice none 0 0), V.lit (Value.slice none 0 0), V.lit (Value.slice none 0 0),
                    V.lit (Value.slice none 0 0), V.lit (Value.slice none 0 0), V.lit (Value.slice none 0 0), V.lit (Value.slice none 0 0),
                    V.lit (Value.slice none 0 0), V.lit (Value.slice none 0 0), V.lit (Value.slice none 0 0), V.lit (Value.slice none 0 0),
                    V.lit (Value.slice none 0 0), V.lit (Value.slice none 0 0), V.lit (Value.slice none 0 0), V.lit (Value.slice none 0 0),
                    V.lit (Value.slice none 0 0), V.lit (Value.slice none 0 0), V.lit (Value.slice none 0 0), V.lit (Value.slice none 0 0),
                    V.sl 5 0 2 false],
                  155),
              some ([V.sld [V.int IntKind.u8 (92 : Int), V.int IntKind.u8 (34 : Int)]], 5), some ([V.sld [V.int IntKind.u8 (92 : Int), V.int IntKind.u8 (92 : Int)]], 5),
              some ([V.str [92], V.str [34]], 9)]
            [0, 0])]
      (T.need [156 = 156, "Replace" = "Replace", MethodIs (Env.P (ERep g)) 156 "Replace" 218]
        (T.bind (g t) fun y1 =>
          T.need
            [FnOK (Env.P (ERep g)) 218 [V.ptr 0 0, V.str t]
                [some
                    ([V.lit (Value.slice none 0 0), V.lit (Value.slice none 0 0), V.lit (Value.slice none 0 0), V.lit (Value.slice none 0 0),
                        V.lit (Value.slice none 0 0), V.lit (Value.slice none 0 0), V.lit (Value.slice none 0 0), V.lit (Value.slice none 0 0),
                        V.lit (Value.slice none 0 0), V.lit (Value.slice none 0 0), V.lit (Value.slice none 0 0), V.lit (Value.slice none 0 0),
                        V.lit (Value.slice none 0 0), V.lit (Value.slice none 0 0), V.lit (Value.slice none 0 0), V.lit (Value.slice none 0 0),
                        V.lit (Value.slice none 0 0), V.lit (Value.slice none 0 0), V.lit (Value.slice none 0 0), V.lit (Value.slice none 0 0),
                        V.lit (Value.slice none 0 0), V.lit (Value.slice none 0 0), V.lit (Value.slice none 0 0), V.lit (Value.slice none 0 0),
                        V.lit (Value.slice none 0 0), V.lit (Value.slice none 0 0), V.lit (Value.slice none 0 0), V.lit (Value.slice none 0 0),
                        V.lit (Value.slice none 0 0), V.lit (Value.slice none 0 0), V.lit (Value.slice none 0 0), V.lit (Value.slice none 0 0),
                        V.lit (Value.slice none 0 0), V.lit (Value.slice none 0 0), V.sl 1 0 2 false, V.lit (Value.slice none 0 0),
                        V.lit (Value.slice none 0 0), V.lit (Value.slice none 0 0), V.lit (Value.slice none 0 0), V.lit (Value.slice none 0 0),
                        V.lit (Value.slice none 0 0), V.lit (Value.slice none 0 0), V.lit (Value.slice none 0 0), V.lit (Value.slice none 0 0),
                        V.lit (Value.slice none 0 0), V.lit (Value.slice none 0 0), V.lit (Value.slice none 0 0), V.lit (Value.slice none 0 0),
                        V.lit (Value.slice none 0 0), V.lit (Value.slice none 0 0), V.lit (Value.slice none 0 0), V.lit (Value.slice none 0 0),
                        V.lit (Value.slice none 0 0), V.lit (Value.slice none 0 0), V.lit (Value.slice none 0 0), V.lit (Value.slice none 0 0),
                        V.lit (Value.slice none 0 0), V.lit (Value.slice none 0 0), V.lit (Value.slice none 0 0), V.lit (Value.slice none 0 0),
                        V.lit (Value.slice none 0 0), V.lit (Value.slice none 0 0), V.lit (Value.slice none 0 0), V.lit (Value.slice none 0 0),
                        V.lit (Value.slice none 0 0), V.lit (Value.slice none 0 0), V.lit (Value.slice none 0 0), V.lit (Value.slice none 0 0),
                        V.lit (Value.slice none 0 0), V.lit (Value.slice none 0 0), V.lit (Value.slice none 0 0), V.lit (Value.slice none 0 0),
                        V.lit (Value.slice none 0 0), V.lit (Value.slice none 0 0), V.lit (Value.slice none 0 0), V.lit (Value.slice none 0 0),
                        V.lit (Value.slice none 0 0), V.lit (Value.slice none 0 0), V.lit (Value.slice none 0 0), V.lit (Value.slice none 0 0),
                        V.lit (Value.slice none 0 0), V.lit (Value.slice none 0 0), V.lit (Value.slice none 0 0), V.lit (Value.slice none 0 0),
                        V.lit (Value.slice none 0 0), V.lit (Value.slice none 0 0), V.lit (Value.slice none 0 0), V.lit (Value.slice none 0 0),
                        V.lit (Value.slice none 0 0), V.lit (Value.slice none 0 0), V.lit (Value.slice none 0 0), V.lit (Value.slice none 0 0),
                        V.sl 2 0 2 false, V.lit (Value.slice none 0 0), V.lit (Value.slice none 0 0), V.lit (Value.slice none 0 0),
                        V.lit (Value.slice none 0 0), V.lit (Value.slice none 0 0), V.lit (Value.slice none 0 0), V.lit (Value.slice none 0 0),
                        V.lit (Value.slice none 0 0), V.lit (Value.slice none 0 0), V.lit (Value.slice none 0 0), V.lit (Value.slice none 0 0),
                        V.lit (Value.slice none 0 0), V.lit (Value.slice none 0 0), V.lit (Value.slice none 0 0), V.lit (Value.slice none 0 0),
                        V.lit (Value.slice none 0 0), V.lit (Value.slice none 0 0), V.lit (Value.slice none 0 0), V.lit (Value.slice none 0 0),
                        V.lit (Value.slice none 0 0), V.lit (Value.slice none 0 0), V.lit (Value.slice none 0 0), V.lit (Value.slice none 0 0),
                        V.lit (Value.slice none 0 0), V.lit (Value.slice none 0 0), V.lit (Value.slice none 0 0), V.lit (Value.slice none 0 0),
                        V.lit (Value.slice none 0 0), V.lit (Value.slice none 0 0), V.lit (Value.slice none 0 0), V.lit (Value.slice none 0 0),
                        V.lit (Value.slice none 0 0), V.lit (Value.slice none 0 0), V.lit (Value.slice none 0 0), V.lit (Value.slice none 0 0),
                        V.lit (Value.slice none 0 0), V.lit (Value.slice none 0 0), V.lit (Value.slice none 0 0), V.lit (Value.slice none 0 0),
                        V.lit (Value.slice none 0 0), V.lit (Value.slice none 0 0), V.lit (Value.slice none 0 0), V.lit (Value.slice none 0 0),
                        V.lit (Value.slice none 0 0), V.lit (Value.slice none 0 0), V.lit (Value.slice none 0 0), V.lit (Value.slice none 0 0),
                        V.lit (Value.slice none 0 0), V.lit (Value.slice none 0 0), V.lit (Value.slice none 0 0), V.lit (Value.slice none 0 0),
                        V.lit (Value.slice none 0 0), V.lit (Value.slice none 0 0), V.lit (Value.slice none 0 0), V.lit (Value.slice none 0 0),
                        V.lit (Value.slice none 0 0), V.lit (Value.slice none 0 0), V.lit (Value.slice none 0 0), V.lit (Value.slice none 0 0),
                        V.lit (Value.slice none 0 0), V.lit (Value.slice none 0 0), V.lit (Value.slice none 0 0), V.lit (Value.slice none 0 0),
                        V.lit (Value.slice none 0 0), V.lit (Value.slice none 0 0), V.lit (Value.slice none 0 0), V.lit (Value.slice none 0 0),
                        V.lit (Value.slice none 0 0), V.lit (Value.slice none 0 0), V.lit (Value.slice none 0 0), V.lit (Value.slice none 0 0),
                        V.lit (Value.slice none 0 0), V.lit (Value.slice none 0 0), V.lit (Value.slice none 0 0), V.lit (Value.slice none 0 0),
                        V.lit (Value.slice none 0 0), V.lit (Value.slice none 0 0), V.lit (Value.slice none 0 0), V.lit (Value.slice none 0 0),
                        V.lit (Value.slice none 0 0), V.lit (Value.slice none 0 0), V.lit (Value.slice none 0 0), V.lit (Value.slice none 0 0),
                        V.lit (Value.slice none 0 0), V.lit (Value.slice none 0 0), V.lit (Value.slice none 0 0), V.lit (Value.slice none 0 0),
                        V.lit (Value.slice none 0 0), V.lit (Value.slice none 0 0), V.lit (Value.slice none 0 0), V.lit (Value.slice none 0 0),
                        V.lit (Value.slice none 0 0), V.lit (Value.slice none 0 0), V.lit (Value.slice none 0 0), V.lit (Value.slice none 0 0),
                        V.lit (Value.slice none 0 0), V.lit (Value.slice none 0 0), V.lit (Value.slice none 0 0), V.lit (Value.slice none 0 0),
                        V.lit (Value.slice none 0 0), V.lit (Value.slice none 0 0), V.lit (Value.slice none 0 0), V.lit (Value.slice none 0 0),
                        V.lit (Value.slice none 0 0), V.lit (Value.slice none 0 0), V.lit (Value.slice none 0 0), V.lit (Value.slice none 0 0),
                        V.lit (Value.slice none 0 0), V.lit (Value.slice none 0 0), V.lit (Value.slice none 0 0), V.lit (Value.slice none 0 0),
                        V.lit (Value.slice none 0 0), V.lit (Value.slice none 0 0), V.lit (Value.slice none 0 0), V.lit (Value.slice none 0 0),
                        V.lit (Value.slice none 0 0), V.lit (Value.slice none 0 0), V.lit (Value.slice none 0 0), V.lit (Value.slice none 0 0),
                        V.lit (Value.slice none 0 0), V.lit (Value.slice none 0 0), V.lit (Value.slice none 0 0), V.lit (Value.slice none 0 0),
                        V.lit (Value.slice none 0 0), V.lit (Value.slice none 0 0), V.lit (Value.slice none 0 0), V.lit (Value.slice none 0 0),
                        V.lit (Value.slice none 0 0), V.lit (Value.slice none 0 0), V.lit (Value.slice none 0 0), V.lit (Value.slice none 0 0),
                        V.lit (Value.slice none 0 0), V.lit (Value.slice none 0 0), V.lit (Value.slice none 0 0), V.lit (Value.slice none 0 0),
                        V.lit (Value.slice none 0 0), V.lit (Value.slice none 0 0), V.lit (Value.slice none 0 0), V.lit (Value.slice none 0 0),
                        V.lit (Value.slice none 0 0), V.lit (Value.slice none 0 0), V.lit (Value.slice none 0 0), V.lit (Value.slice none 0 0),
                        V.lit (Value.slice none 0 0), V.lit (Value.slice none 0 0), V.lit (Value.slice none 0 0), V.lit (Value.slice none 0 0),
                        V.lit (Value.slice none 0 0), V.lit (Value.slice none 0 0), V.lit (Value.slice none 0 0), V.lit (Value.slice none 0 0),
                        V.lit (Value.slice none 0 0), V.lit (Value.slice none 0 0), V.lit (Value.slice none 0 0), V.lit (Value.slice none 0 0),
                        V.lit (Value.slice none 0 0), V.lit (Value.slice none 0 0), V.lit (Value.slice none 0 0), V.lit (Value.slice none 0 0),
                        V.lit (Value.slice none 0 0), V.lit (Value.slice none 0 0), V.lit (Value.slice none 0 0), V.lit (Value.slice none 0 0),
                        V.sl 3 0 2 false],
                      155),
                  some ([V.sld [V.int IntKind.u8 (92 : Int), V.int IntKind.u8 (34 : Int)]], 5), some ([V.sld [V.int IntKind.u8 (92 : Int), V.int IntKind.u8 (92 : Int)]], 5),
                  some ([V.str [92], V.str [34]], 9)]
                (Ret.mk (V.str y1)
                  [some
                      ([V.lit (Value.slice none 0 0), V.lit (Value.slice none 0 0), V.lit (Value.slice none 0 0), V.lit (Value.slice none 0 0),
                          V.lit (Value.slice none 0 0), V.lit (Value.slice none 0 0), V.lit (Value.slice none 0 0), V.lit (Value.slice none 0 0),
                          V.lit (Value.slice none 0 0), V.lit (Value.slice none 0 0), V.lit (Value.slice none 0 0), V.lit (Value.slice none 0 0),
                          V.lit (Value.slice none 0 0), V.lit (Value.slice none 0 0), V.lit (Value.slice none 0 0), V.lit (Value.slice none 0 0),
                          V.lit (Value.slice none 0 0), V.lit (Value.slice none 0 0), V.lit (Value.slice none 0 0), V.lit (Value.slice none 0 0),
                          V.lit (Value.slice none 0 0), V.lit (Value.slice none 0 0), V.lit (Value.slice none 0 0), V.lit (Value.slice none 0 0),
                          V.lit (Value.slice none 0 0), V.lit (Value.slice none 0 0), V.lit (Value.slice none 0 0), V.lit (Value.slice none 0 0),
                          V.lit (Value.slice none 0 0), V.lit (Value.slice none 0 0), V.lit (Value.slice none 0 0), V.lit (Value.slice none 0 0),
                          V.lit (Value.slice none 0 0), V.lit (Value.slice none 0 0), V.sl 1 0 2 false, V.lit (Value.slice none 0 0),
                          V.lit (Value.slice none 0 0), V.lit (Value.slice none 0 0), V.lit (Value.slice none 0 0), V.lit (Value.slice none 0 0),
                          V.lit (Value.slice none 0 0), V.lit (Value.slice none 0 0), V.lit (Value.slice none 0 0), V.lit (Value.slice none 0 0),
                          V.lit (Value.slice none 0 0), V.lit (Value.slice none 0 0), V.lit (Value.slice none 0 0), V.lit (Value.slice none 0 0),
                          V.lit (Value.slice none 0 0), V.lit (Value.slice none 0 0), V.lit (Value.slice none 0 0), V.lit (Value.slice none 0 0),
                          V.lit (Value.slice none 0 0), V.lit (Value.slice none 0 0), V.lit (Value.slice none 0 0), V.lit (Value.slice none 0 0),
                          V.lit (Value.slice none 0 0), V.lit (Value.slice none 0 0), V.lit (Value.slice none 0 0), V.lit (Value.slice none 0 0),
                          V.lit (Value.slice none 0 0), V.lit (Value.slice none 0 0), V.lit (Value.slice none 0 0), V.lit (Value.slice none 0 0),
                          V.lit (Value.slice none 0 0), V.lit (Value.slice none 0 0), V.lit (Value.slice none 0 0), V.lit (Value.slice none 0 0),
                          V.lit (Value.slice none 0 0), V.lit (Value.slice none 0 0), V.lit (Value.slice none 0 0), V.lit (Value.slice none 0 0),
                          V.lit (Value.slice none 0 0), V.lit (Value.slice none 0 0), V.lit (Value.slice none 0 0), V.lit (Value.slice none 0 0),
                          V.lit (Value.slice none 0 0), V.lit (Value.slice none 0 0), V.lit (Value.slice none 0 0), V.lit (Value.slice none 0 0),
                          V.lit (Value.slice none 0 0), V.lit (Value.slice none 0 0), V.lit (Value.slice none 0 0), V.lit (Value.slice none 0 0),
                          V.lit (Value.slice none 0 0), V.lit (Value.slice none 0 0), V.lit (Value.slice none 0 0), V.lit (Value.slice none 0 0),
                          V.lit (Value.slice none 0 0), V.lit (Value.slice none 0 0), V.lit (Value.slice none 0 0), V.lit (Value.slice none 0 0),
                          V.sl 2 0 2 false, V.lit (Value.slice none 0 0), V.lit (Value.slice none 0 0), V.lit (Value.slice none 0 0),
                          V.lit (Value.slice none 0 0), V.lit (Value.slice none 0 0), V.lit (Value.slice none 0 0), V.lit (Value.slice none 0 0),
                          V.lit (Value.slice none 0 0), V.lit (Value.slice none 0 0), V.lit (Value.slice none 0 0), V.lit (Value.slice none 0 0),
                          V.lit (Value.slice none 0 0), V.lit (Value.slice none 0 0), V.lit (Value.slice none 0 0), V.lit (Value.slice none 0 0),
                          V.lit (Value.slice none 0 0), V.lit (Value.slice none 0 0), V.lit (Value.slice none 0 0), V.lit (Value.slice none 0 0),
                          V.lit (Value.slice none 0 0), V.lit (Value.slice none 0 0), V.lit (Value.slice none 0 0), V.lit (Value.slice none 0 0),
                          V.lit (Value.slice none 0 0), V.lit (Value.slice none 0 0), V.lit (Value.slice none 0 0), V.lit (Value.slice none 0 0),
                          V.lit (Value.slice none 0 0), V.lit (Value.slice none 0 0), V.lit (Value.slice none 0 0), V.lit (Value.slice none 0 0),
                          V.lit (Value.slice none 0 0), V.lit (Value.slice none 0 0), V.lit (Value.slice none 0 0), V.lit (Value.slice none 0 0),
                          V.lit (Value.slice none 0 0), V.lit (Value.slice none 0 0), V.lit (Value.slice none 0 0), V.lit (Value.slice none 0 0),
                          V.lit (Value.slice none 0 0), V.lit (Value.slice none 0 0), V.lit (Value.slice none 0 0), V.lit (Value.slice none 0 0),
                          V.lit (Value.slice none 0 0), V.lit (Value.slice none 0 0), V.lit (Value.slice none 0 0), V.lit (Value.slice none 0 0),
                          V.lit (Value.slice none 0 0), V.lit (Value.slice none 0 0), V.lit (Value.slice none 0 0), V.lit (Value.slice none 0 0),
                          V.lit (Value.slice none 0 0), V.lit (Value.slice none 0 0), V.lit (Value.slice none 0 0), V.lit (Value.slice none 0 0),
                          V.lit (Value.slice none 0 0), V.lit (Value.slice none 0 0), V.lit (Value.slice none 0 0), V.lit (Value.slice none 0 0),
                          V.lit (Value.slice none 0 0), V.lit (Value.slice none 0 0), V.lit (Value.slice none 0 0), V.lit (Value.slice none 0 0),
                          V.lit (Value.slice none 0 0), V.lit (Value.slice none 0 0), V.lit (Value.slice none 0 0), V.lit (Value.slice none 0 0),
                          V.lit (Value.slice none 0 0), V.lit (Value.slice none 0 0), V.lit (Value.slice none 0 0), V.lit (Value.slice none 0 0),
                          V.lit (Value.slice none 0 0), V.lit (Value.slice none 0 0), V.lit (Value.slice none 0 0), V.lit (Value.slice none 0 0),
                          V.lit (Value.slice none 0 0), V.lit (Value.slice none 0 0), V.lit (Value.slice none 0 0), V.lit (Value.slice none 0 0),
                          V.lit (Value.slice none 0 0), V.lit (Value.slice none 0 0), V.lit (Value.slice none 0 0), V.lit (Value.slice none 0 0),
                          V.lit (Value.slice none 0 0), V.lit (Value.slice none 0 0), V.lit (Value.slice none 0 0), V.lit (Value.slice none 0 0),
                          V.lit (Value.slice none 0 0), V.lit (Value.slice none 0 0), V.lit (Value.slice none 0 0), V.lit (Value.slice none 0 0),
                          V.lit (Value.slice none 0 0), V.lit (Value.slice none 0 0), V.lit (Value.slice none 0 0), V.lit (Value.slice none 0 0),
                          V.lit (Value.slice none 0 0), V.lit (Value.slice none 0 0), V.lit (Value.slice none 0 0), V.lit (Value.slice none 0 0),
                          V.lit (Value.slice none 0 0), V.lit (Value.slice none 0 0), V.lit (Value.slice none 0 0), V.lit (Value.slice none 0 0),
                          V.lit (Value.slice none 0 0), V.lit (Value.slice none 0 0), V.lit (Value.slice none 0 0), V.lit (Value.slice none 0 0),
                          V.lit (Value.slice none 0 0), V.lit (Value.slice none 0 0), V.lit (Value.slice none 0 0), V.lit (Value.slice none 0 0),
                          V.lit (Value.slice none 0 0), V.lit (Value.slice none 0 0), V.lit (Value.slice none 0 0), V.lit (Value.slice none 0 0),
                          V.lit (Value.slice none 0 0), V.lit (Value.slice none 0 0), V.lit (Value.slice none 0 0), V.lit (Value.slice none 0 0),
                          V.lit (Value.slice none 0 0), V.lit (Value.slice none 0 0), V.lit (Value.slice none 0 0), V.lit (Value.slice none 0 0),
                          V.lit (Value.slice none 0 0), V.lit (Value.slice none 0 0), V.lit (Value.slice none 0 0), V.lit (Value.slice none 0 0),
                          V.lit (Value.slice none 0 0), V.lit (Value.slice none 0 0), V.lit (Value.slice none 0 0), V.lit (Value.slice none 0 0),
                          V.lit (Value.slice none 0 0), V.lit (Value.slice none 0 0), V.lit (Value.slice none 0 0), V.lit (Value.slice none 0 0),
                          V.lit (Value.slice none 0 0), V.lit (Value.slice none 0 0), V.lit (Value.slice none 0 0), V.lit (Value.slice none 0 0),
                          V.lit (Value.slice none 0 0), V.lit (Value.slice none 0 0), V.lit (Value.slice none 0 0), V.lit (Value.slice none 0 0),
                          V.lit (Value.slice none 0 0), V.lit (Value.slice none 0 0), V.lit (Value.slice none 0 0), V.lit (Value.slice none 0 0),
                          V.lit (Value.slice none 0 0), V.lit (Value.slice none 0 0), V.lit (Value.slice none 0 0), V.lit (Value.slice none 0 0),
                          V.lit (Value.slice none 0 0), V.lit (Value.slice none 0 0), V.lit (Value.slice none 0 0), V.lit (Value.slice none 0 0),
                          V.lit (Value.slice none 0 0), V.lit (Value.slice none 0 0), V.lit (Value.slice none 0 0), V.lit (Value.slice none 0 0),
                          V.lit (Value.slice none 0 0), V.lit (Value.slice none 0 0), V.lit (Value.slice none 0 0), V.lit (Value.slice none 0 0),
                          V.sl 3 0 2 false],
                        155),
                    some ([V.sld [V.int IntKind.u8 (92 : Int), V.int IntKind.u8 (34 : Int)]], 5), some ([V.sld [V.int IntKind.u8 (92 : Int), V.int IntKind.u8 (92 : Int)]], 5),
                    some ([V.str [92], V.str [34]], 9)]
                  [])]
            (T.done
              (Ret.mk (V.str y1)
                [some ([V.int IntKind.u32 (1 : Int), V.int IntKind.i32 (0 : Int), V.int IntKind.u32 (0 : Int), V.box (BK.iface 156) [V.ptr 2 0], V.dsl 0 true []], 116),
                  some ([V.sld [], V.str [34], V.str [92, 34], V.str [92], V.str [92, 92]], 9),
                  some
                    ([V.sld
                          [V.lit (Value.slice none 0 0), V.lit (Value.slice none 0 0), V.lit (Value.slice none 0 0), V.lit (Value.slice none 0 0),
                            V.lit (Value.slice none 0 0), V.lit (Value.slice none 0 0), V.lit (Value.slice none 0 0), V.lit (Value.slice none 0 0),
                            V.lit (Value.slice none 0 0), V.lit (Value.slice none 0 0), V.lit (Value.slice none 0 0), V.lit (Value.slice none 0 0),
                            V.lit (Value.slice none 0 0), V.lit (Value.slice none 0 0), V.lit (Value.slice none 0 0), V.lit (Value.slice none 0 0),
                            V.lit (Value.slice none 0 0), V.lit (Value.slice none 0 0), V.lit (Value.slice none 0 0), V.lit (Value.slice none 0 0),
                            V.lit (Value.slice none 0 0), V.lit (Value.slice none 0 0), V.lit (Value.slice none 0 0), V.lit (Value.slice none 0 0),
                            V.lit (Value.slice none 0 0), V.lit (Value.slice none 0 0), V.lit (Value.slice none 0 0), V.lit (Value.slice none 0 0),
                            V.lit (Value.slice none 0 0), V.lit (Value.slice none 0 0), V.lit (Value.slice none 0 0), V.lit (Value.slice none 0 0),
                            V.lit (Value.slice none 0 0), V.lit (Value.slice none 0 0), V.dsl 2 false [V.int IntKind.u8 (92 : Int), V.int IntKind.u8 (34 : Int)],
                            V.lit (Value.slice none 0 0), V.lit (Value.slice none 0 0), V.lit (Value.slice none 0 0), V.lit (Value.slice none 0 0),
                            V.lit (Value.slice none 0 0), V.lit (Value.slice none 0 0), V.lit (Value.slice none 0 0), V.lit (Value.slice none 0 0),
                            V.lit (Value.slice none 0 0), V.lit (Value.slice none 0 0), V.lit (Value.slice none 0 0), V.lit (Value.slice none 0 0),
                            V.lit (Value.slice none 0 0), V.lit (Value.slice none 0 0), V.lit (Value.slice none 0 0), V.lit (Value.slice none 0 0),
                            V.lit (Value.slice none 0 0), V.lit (Value.slice none 0 0), V.lit (Value.slice none 0 0), V.lit (Value.slice none 0 0),
                            V.lit (Value.slice none 0 0), V.lit (Value.slice none 0 0), V.lit (Value.slice none 0 0), V.lit (Value.slice none 0 0),
                            V.lit (Value.slice none 0 0), V.lit (Value.slice none 0 0), V.lit (Value.slice none 0 0), V.lit (Value.slice none 0 0),
                            V.lit (Value.slice none 0 0), V.lit (Value.slice none 0 0), V.lit (Value.slice none 0 0), V.lit (Value.slice none 0 0),
                            V.lit (Value.slice none 0 0), V.lit (Value.slice none 0 0), V.lit (Value.slice none 0 0), V.lit (Value.slice none 0 0),
                            V.lit (Value.slice none 0 0), V.lit (Value.slice none 0 0), V.lit (Value.slice none 0 0), V.lit (Value.slice none 0 0),
                            V.lit (Value.slice none 0 0), V.lit (Value.slice none 0 0), V.lit (Value.slice none 0 0), V.lit (Value.slice none 0 0),
                            V.lit (Value.slice none 0 0), V.lit (Value.slice none 0 0), V.lit (Value.slice none 0 0), V.lit (Value.slice none 0 0),
                            V.lit (Value.slice none 0 0), V.lit (Value.slice none 0 0), V.lit (Value.slice none 0 0), V.lit (Value.slice none 0 0),
                            V.lit (Value.slice none 0 0), V.lit (Value.slice none 0 0), V.lit (Value.slice none 0 0), V.lit (Value.slice none 0 0),
                            V.lit (Value.slice none 0 0), V.dsl 2 false [V.int IntKind.u8 (92 : Int), V.int IntKind.u8 (92 : Int)], V.lit (Value.slice none 0 0),
                            V.lit (Value.slice none 0 0), V.lit (Value.slice none 0 0), V.lit (Value.slice none 0 0), V.lit (Value.slice none 0 0),
                            V.lit (Value.slice none 0 0), V.lit (Value.slice none 0 0), V.lit (Value.slice none 0 0), V.lit (Value.slice none 0 0),
                            V.lit (Value.slice none 0 0), V.lit (Value.slice none 0 0), V.lit (Value.slice none 0 0), V.lit (Value.slice none 0 0),
                            V.lit (Value.slice none 0 0), V.lit (Value.slice none 0 0), V.lit (Value.slice none 0 0), V.lit (Value.slice none 0 0),
                            V.lit (Value.slice none 0 0), V.lit (Value.slice none 0 0), V.lit (Value.slice none 0 0), V.lit (Value.slice none 0 0),
                            V.lit (Value.slice none 0 0), V.lit (Value.slice none 0 0), V.lit (Value.slice none 0 0), V.lit (Value.slice none 0 0),
                            V.lit (Value.slice none 0 0), V.lit (Value.slice none 0 0), V.lit (Value.slice none 0 0), V.lit (Value.slice none 0 0),
                            V.lit (Value.slice none 0 0), V.lit (Value.slice none 0 0), V.lit (Value.slice none 0 0), V.lit (Value.slice none 0 0),
                            V.lit (Value.slice none 0 0), V.lit (Value.slice none 0 0), V.lit (Value.slice none 0 0), V.lit (Value.slice none 0 0),
                            V.lit (Value.slice none 0 0), V.lit (Value.slice none 0 0), V.lit (Value.slice none 0 0), V.lit (Value.slice none 0 0),
                            V.lit (Value.slice none 0 0), V.lit (Value.slice none 0 0), V.lit (Value.slice none 0 0), V.lit (Value.slice none 0 0),
                            V.lit (Value.slice none 0 0), V.lit (Value.slice none 0 0), V.lit (Value.slice none 0 0), V.lit (Value.slice none 0 0),
                            V.lit (Value.slice none 0 0), V.lit (Value.slice none 0 0), V.lit (Value.slice none 0 0), V.lit (Value.slice none 0 0),
                            V.lit (Value.slice none 0 0), V.lit (Value.slice none 0 0), V.lit (Value.slice none 0 0), V.lit (Value.slice none 0 0),
                            V.lit (Value.slice none 0 0), V.lit (Value.slice none 0 0), V.lit (Value.slice none 0 0), V.lit (Value.slice none 0 0),
                            V.lit (Value.slice none 0 0), V.lit (Value.slice none 0 0), V.lit (Value.slice none 0 0), V.lit (Value.slice none 0 0),
                            V.lit (Value.slice none 0 0), V.lit (Value.slice none 0 0), V.lit (Value.slice none 0 0), V.lit (Value.slice none 0 0),
                            V.lit (Value.slice none 0 0), V.lit (Value.slice none 0 0), V.lit (Value.slice none 0 0), V.lit (Value.slice none 0 0),
                            V.lit (Value.slice none 0 0), V.lit (Value.slice none 0 0), V.lit (Value.slice none 0 0), V.lit (Value.slice none 0 0),
                            V.lit (Value.slice none 0 0), V.lit (Value.slice none 0 0), V.lit (Value.slice none 0 0), V.lit (Value.slice none 0 0),
                            V.lit (Value.slice none 0 0), V.lit (Value.slice none 0 0), V.lit (Value.slice none 0 0), V.lit (Value.slice none 0 0),
                            V.lit (Value.slice none 0 0), V.lit (Value.slice none 0 0), V.lit (Value.slice none 0 0), V.lit (Value.slice none 0 0),
                            V.lit (Value.slice none 0 0), V.lit (Value.slice none 0 0), V.lit (Value.slice none 0 0), V.lit (Value.slice none 0 0),
                            V.lit (Value.slice none 0 0), V.lit (Value.slice none 0 0), V.lit (Value.slice none 0 0), V.lit (Value.slice none 0 0),
                            V.lit (Value.slice none 0 0), V.lit (Value.slice none 0 0), V.lit (Value.slice none 0 0), V.lit (Value.slice none 0 0),
                            V.lit (Value.slice none 0 0), V.lit (Value.slice none 0 0), V.lit (Value.slice none 0 0), V.lit (Value.slice none 0 0),
                            V.lit (Value.slice none 0 0), V.lit (Value.slice none 0 0), V.lit (Value.slice none 0 0), V.lit (Value.slice none 0 0),
                            V.lit (Value.slice none 0 0), V.lit (Value.slice none 0 0), V.lit (Value.slice none 0 0), V.lit (Value.slice none 0 0),
                            V.lit (Value.slice none 0 0), V.lit (Value.slice none 0 0), V.lit (Value.slice none 0 0), V.lit (Value.slice none 0 0),
                            V.lit (Value.slice none 0 0), V.lit (Value.slice none 0 0), V.lit (Value.slice none 0 0), V.lit (Value.slice none 0 0),
                            V.lit (Value.slice none 0 0), V.lit (Value.slice none 0 0), V.lit (Value.slice none 0 0), V.lit (Value.slice none 0 0),
                            V.lit (Value.slice none 0 0), V.lit (Value.slice none 0 0), V.lit (Value.slice none 0 0), V.lit (Value.slice none 0 0),
                            V.lit (Value.slice none 0 0), V.lit (Value.slice none 0 0), V.lit (Value.slice none 0 0), V.lit (Value.slice none 0 0),
                            V.lit (Value.slice none 0 0), V.lit (Value.slice none 0 0), V.lit (Value.slice none 0 0), V.lit (Value.slice none 0 0),
                            V.lit (Value.slice none 0 0), V.lit (Value.slice none 0 0), V.lit (Value.slice none 0 0), V.lit (Value.slice none 0 0),
                            V.lit (Value.slice none 0 0), V.lit (Value.slice none 0 0), V.lit (Value.slice none 0 0), V.lit (Value.slice none 0 0),
                            V.lit (Value.slice none 0 0), V.lit (Value.slice none 0 0), V.lit (Value.slice none 0 0), V.lit (Value.slice none 0 0),
                            V.lit (Value.slice none 0 0), V.lit (Value.slice none 0 0), V.lit (Value.slice none 0 0), V.lit (Value.slice none 0 0),
                            V.lit (Value.slice none 0 0), V.lit (Value.slice none 0 0), V.lit (Value.slice none 0 0), V.lit (Value.slice none 0 0),
                            V.lit (Value.slice none 0 0), V.lit (Value.slice none 0 0), V.lit (Value.slice none 0 0), V.lit (Value.slice none 0 0),
                            V.lit (Value.slice none 0 0), V.lit (Value.slice none 0 0), V.dsl 2 false [V.str [92], V.str [34]]]],
                      155)]
                [0])))) := (T.force_eq _).symm.trans (by kernel_rfl)
set_option maxRecDepth 100000 in
theorem quotedT (g : List UInt8 → List UInt8) (t : List UInt8) : fnT (ERep g) 0 fQuoted [.str t] [] =
  T.bind PUnit.unit fun _ =>
    T.need
      [FnOK (Env.P (ERep g)) 73 [V.sl 0 0 4 true] [some ([V.str [34], V.str [92, 34], V.str [92], V.str [92, 92]], 9)]
          (Ret.mk (V.ptr 1 0)
            [some ([V.str [34], V.str [92, 34], V.str [92], V.str [92, 92]], 9),
              some ([V.int IntKind.u32 (0 : Int), V.int IntKind.i32 (0 : Int), V.int IntKind.u32 (0 : Int), V.lit Value.nilIface, V.sl 2 0 4 false], 116),
              some ([V.sld [], V.str [34], V.str [92, 34], V.str [92], V.str [92, 92]], 9)]
            [])]
      (T.bind (g t) fun y1 =>
        T.need
          [FnOK (Env.P (ERep g)) 74 [V.ptr 0 0, V.str t]
              [some ([V.int IntKind.u32 (0 : Int), V.int IntKind.i32 (0 : Int), V.int IntKind.u32 (0 : Int), V.lit Value.nilIface, V.sl 1 0 4 false], 116),
                some ([V.sld [], V.str [34], V.str [92, 34], V.str [92], V.str [92, 92]], 9)]
              (Ret.mk (V.str y1) [none, none] [0, 1])]
          (T.need [1 + List.length y1 ≤ 4611686018427387904]
            (T.need [List.length ([(34 : UInt8)] ++ y1) + 1 ≤ 4611686018427387904] (T.done (Ret.mk (V.str ([(34 : UInt8)] ++ y1 ++ [(34 : UInt8)])) [] []))))) := (T.force_eq _).symm.trans (by kernel_rfl)

end Go.Proofs.YtjgancippgpdhaaGreatDoor

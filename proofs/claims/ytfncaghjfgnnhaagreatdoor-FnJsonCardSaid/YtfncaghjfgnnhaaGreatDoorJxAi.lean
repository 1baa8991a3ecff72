/-
  The library's Replace over single bytes, whole; quoted texts.
  The program's print gives what the reference's gives.
  Right values can be printed by the program, and are short.
  The source of choices that some bytes make.
  The program's PrintJson; values that are drawn.
  The program's reader of values: blanks, what stands there, what is wanted.
  The program's reader of values: texts.
  The program's reader of values: numbers.
  The program's reader of values: what it does, as a function.
  The program's reader of values: lists.
  Layouts of library functions at this program (printed by tools/lays.py).
-/
import Derived.Test.YtfncaghjfgnnhaaGreatDoorJxAh
import Derived.Shelf.Small.Strs
import Derived.Lib.AtoiAllCases
import Derived.Shelf.LaysC
import Derived.Shelf.Sort.Plain
import Derived.Shelf.Strconv.AtoiAll
import Derived.Test.YtfncaghjfgnnhaaGreatDoorRows
namespace Go.Proofs.YtfncaghjfgnnhaaGreatDoor
open Go.RowKit
set_option maxRecDepth 100000

noncomputable def ls116 (t : List UInt8) : Nat → St → Option LRes := fun id s => match id with
  | 0 => some ⟨(), fun _ => .one { keep := [0, 1, 5, 6, 30, 31, 32] } (stA t 0 t.length false) (.exit 0) (stX t ((t.length + t.countP spB : Nat) : Int) (t.any spB))⟩
  | 2 => some ⟨(), fun _ => .one { keep := [0, 1, 5, 6, 10] } (stC t 0 t.length false) (.exit 2) (stX t ((t.length + t.countP spB : Nat) : Int) (t.any spB))⟩
  | 4 => match s.tm.get 12 with
    | .sl _ _ n fl => some ⟨escLQ t, fun y => .one { keep := [0, 1, 12, 13, 14] } (stE t (List.replicate n 0) 0 0 fl) (.exit 4) (stY y fl)⟩
    | _ => none
  | _ => none
noncomputable def E116b (t : List UInt8) : Env := { P := Tryz.prog, vw := fun _ _ _ => none, res := resCnt (fun _ => 0), ls := ls116 t, vs := [] }
--FOLD bytBQ
set_option maxRecDepth 100000 in
theorem byteRepT (t : List UInt8) : fnT (E116b t) 0 fByteRep [.ptr 0 0, .str t] H116 =
 bif decide ((16 : Int) ≤ (↑(List.length t) : Int)) then
 T.bind PUnit.unit fun _ =>
 T.need
 [St.mk
 (mkTm 122
 [(0, V.ptr 0 0), (1, V.str t), (5, V.int IntKind.i64 (↑(List.length t) : Int)), (6, V.bool false), (30, V.sl 3 0 2 false),
 (31, V.int IntKind.i64 (2 : Int)), (32, V.int IntKind.i64 (0 : Int))])
 [(repB 1),
 some ([V.sld [V.int IntKind.u8 (92 : Int), V.int IntKind.u8 (34 : Int)]], 5), some ([V.sld [V.int IntKind.u8 (92 : Int), V.int IntKind.u8 (92 : Int)]], 5),
 some ([V.str [92], V.str [34]], 9)]
 [] =
 St.mk
 (mkTm 122
 [(0, V.ptr 0 0), (1, V.str t), (5, V.int IntKind.i64 (↑(List.length t) : Int)), (6, V.bool false), (30, V.sl 3 0 2 false),
 (31, V.int IntKind.i64 (2 : Int)), (32, V.int IntKind.i64 (0 : Int))])
 [(repB 1),
 some ([V.sld [V.int IntKind.u8 (92 : Int), V.int IntKind.u8 (34 : Int)]], 5), some ([V.sld [V.int IntKind.u8 (92 : Int), V.int IntKind.u8 (92 : Int)]], 5),
 some ([V.str [92], V.str [34]], 9)]
 [],
 SoundC (Env.P (E116b t)) 4 (blk Tryz.prog fByteRep 0)
 (St.mk
 (mkTm 122
 [(0, V.ptr 0 0), (1, V.str t), (5, V.int IntKind.i64 (↑(List.length t) : Int)), (6, V.bool false), (30, V.sl 3 0 2 false),
 (31, V.int IntKind.i64 (2 : Int)), (32, V.int IntKind.i64 (0 : Int))])
 [(repB 1),
 some ([V.sld [V.int IntKind.u8 (92 : Int), V.int IntKind.u8 (34 : Int)]], 5), some ([V.sld [V.int IntKind.u8 (92 : Int), V.int IntKind.u8 (92 : Int)]], 5),
 some ([V.str [92], V.str [34]], 9)]
 [])
 (Ex.exit 0)
 (St.mk (mkTm 122 [(0, V.ptr 0 0), (1, V.str t), (5, V.int IntKind.i64 (↑(List.length t + List.countP spB t) : Int)), (6, V.bool (List.any t spB))])
 [(repB 1),
 some ([V.sld [V.int IntKind.u8 (92 : Int), V.int IntKind.u8 (34 : Int)]], 5), some ([V.sld [V.int IntKind.u8 (92 : Int), V.int IntKind.u8 (92 : Int)]], 5),
 some ([V.str [92], V.str [34]], 9)]
 [])]
 (bif !List.any t spB then
 T.done
 (Ret.mk (V.str t)
 [(repB 1),
 some ([V.sld [V.int IntKind.u8 (92 : Int), V.int IntKind.u8 (34 : Int)]], 5), some ([V.sld [V.int IntKind.u8 (92 : Int), V.int IntKind.u8 (92 : Int)]], 5),
 some ([V.str [92], V.str [34]], 9)]
 [])
 else
 T.need
 [(0 : Int) ≤ (↑(List.length t + List.countP spB t) : Int) ∧
 (↑(List.length t + List.countP spB t) : Int) ≤ (↑(List.length t + List.countP spB t) : Int) ∧ (↑(List.length t + List.countP spB t) : Int) ≤ (1048576 : Int)]
 (T.bind (escLQ t) fun y1 =>
 T.need
 [St.mk
 (mkTm 122
 [(0, V.ptr 0 0), (1, V.str t),
 (12, V.sl 4 0 (Int.toNat (↑(List.length t + List.countP spB t) : Int)) ((↑(List.length t + List.countP spB t) : Int) == (↑(List.length t + List.countP spB t) : Int))),
 (13, V.int IntKind.i64 (0 : Int)), (14, V.int IntKind.i64 (0 : Int))])
 [(repB 1),
 some ([V.sld [V.int IntKind.u8 (92 : Int), V.int IntKind.u8 (34 : Int)]], 5), some ([V.sld [V.int IntKind.u8 (92 : Int), V.int IntKind.u8 (92 : Int)]], 5),
 some ([V.str [92], V.str [34]], 9), some ([V.sld (zeros [V.int IntKind.u8 (0 : Int)] (Int.toNat (↑(List.length t + List.countP spB t) : Int) * 1))], 5)]
 [] =
 St.mk
 (mkTm 122
 [(0, V.ptr 0 0), (1, V.str t),
 (12,
 V.sl 4 0 (List.length (List.replicate (Int.toNat (↑(List.length t + List.countP spB t) : Int)) (0 : UInt8)))
 ((↑(List.length t + List.countP spB t) : Int) == (↑(List.length t + List.countP spB t) : Int))),
 (13, V.int IntKind.i64 (0 : Int)), (14, V.int IntKind.i64 (0 : Int))])
 [(repB 1),
 some ([V.sld [V.int IntKind.u8 (92 : Int), V.int IntKind.u8 (34 : Int)]], 5), some ([V.sld [V.int IntKind.u8 (92 : Int), V.int IntKind.u8 (92 : Int)]], 5),
 some ([V.str [92], V.str [34]], 9), bytBQ (List.replicate (Int.toNat (↑(List.length t + List.countP spB t) : Int)) (0 : UInt8))]
 [],
 SoundC (Env.P (E116b t)) 4 (blk Tryz.prog fByteRep 4)
 (St.mk
 (mkTm 122
 [(0, V.ptr 0 0), (1, V.str t),
 (12,
 V.sl 4 0 (List.length (List.replicate (Int.toNat (↑(List.length t + List.countP spB t) : Int)) (0 : UInt8)))
 ((↑(List.length t + List.countP spB t) : Int) == (↑(List.length t + List.countP spB t) : Int))),
 (13, V.int IntKind.i64 (0 : Int)), (14, V.int IntKind.i64 (0 : Int))])
 [(repB 1),
 some ([V.sld [V.int IntKind.u8 (92 : Int), V.int IntKind.u8 (34 : Int)]], 5), some ([V.sld [V.int IntKind.u8 (92 : Int), V.int IntKind.u8 (92 : Int)]], 5),
 some ([V.str [92], V.str [34]], 9), bytBQ (List.replicate (Int.toNat (↑(List.length t + List.countP spB t) : Int)) (0 : UInt8))]
 [])
 (Ex.exit 4)
 (St.mk (mkTm 122 [(12, V.sl 4 0 (List.length y1) ((↑(List.length t + List.countP spB t) : Int) == (↑(List.length t + List.countP spB t) : Int)))])
 [(repB 1),
 some ([V.sld [V.int IntKind.u8 (92 : Int), V.int IntKind.u8 (34 : Int)]], 5), some ([V.sld [V.int IntKind.u8 (92 : Int), V.int IntKind.u8 (92 : Int)]], 5),
 some ([V.str [92], V.str [34]], 9), bytBQ y1]
 [])]
 (T.need [encs encByte y1 = byts (decL encByte (encs encByte y1)), 0 = 0, List.length (decL encByte (encs encByte y1) ++ []) = List.length y1]
 (T.done
 (Ret.mk (V.str (decL encByte (encs encByte y1) ++ []))
 [(repB 1),
 some ([V.sld [V.int IntKind.u8 (92 : Int), V.int IntKind.u8 (34 : Int)]], 5), some ([V.sld [V.int IntKind.u8 (92 : Int), V.int IntKind.u8 (92 : Int)]], 5),
 some ([V.str [92], V.str [34]], 9)]
 [])))))
 else
 T.bind PUnit.unit fun _ =>
 T.need
 [St.mk
 (mkTm 122 [(0, V.ptr 0 0), (1, V.str t), (5, V.int IntKind.i64 (↑(List.length t) : Int)), (6, V.bool false), (10, V.int IntKind.i64 (0 : Int))])
 [(repB 1),
 some ([V.sld [V.int IntKind.u8 (92 : Int), V.int IntKind.u8 (34 : Int)]], 5), some ([V.sld [V.int IntKind.u8 (92 : Int), V.int IntKind.u8 (92 : Int)]], 5),
 some ([V.str [92], V.str [34]], 9)]
 [] =
 St.mk
 (mkTm 122 [(0, V.ptr 0 0), (1, V.str t), (5, V.int IntKind.i64 (↑(List.length t) : Int)), (6, V.bool false), (10, V.int IntKind.i64 (0 : Int))])
 [(repB 1),
 some ([V.sld [V.int IntKind.u8 (92 : Int), V.int IntKind.u8 (34 : Int)]], 5), some ([V.sld [V.int IntKind.u8 (92 : Int), V.int IntKind.u8 (92 : Int)]], 5),
 some ([V.str [92], V.str [34]], 9)]
 [],
 SoundC (Env.P (E116b t)) 4 (blk Tryz.prog fByteRep 2)
 (St.mk
 (mkTm 122 [(0, V.ptr 0 0), (1, V.str t), (5, V.int IntKind.i64 (↑(List.length t) : Int)), (6, V.bool false), (10, V.int IntKind.i64 (0 : Int))])
 [(repB 1),
 some ([V.sld [V.int IntKind.u8 (92 : Int), V.int IntKind.u8 (34 : Int)]], 5), some ([V.sld [V.int IntKind.u8 (92 : Int), V.int IntKind.u8 (92 : Int)]], 5),
 some ([V.str [92], V.str [34]], 9)]
 [])
 (Ex.exit 2)
 (St.mk (mkTm 122 [(0, V.ptr 0 0), (1, V.str t), (5, V.int IntKind.i64 (↑(List.length t + List.countP spB t) : Int)), (6, V.bool (List.any t spB))])
 [(repB 1),
 some ([V.sld [V.int IntKind.u8 (92 : Int), V.int IntKind.u8 (34 : Int)]], 5), some ([V.sld [V.int IntKind.u8 (92 : Int), V.int IntKind.u8 (92 : Int)]], 5),
 some ([V.str [92], V.str [34]], 9)]
 [])]
 (bif !List.any t spB then
 T.done
 (Ret.mk (V.str t)
 [(repB 1),
 some ([V.sld [V.int IntKind.u8 (92 : Int), V.int IntKind.u8 (34 : Int)]], 5), some ([V.sld [V.int IntKind.u8 (92 : Int), V.int IntKind.u8 (92 : Int)]], 5),
 some ([V.str [92], V.str [34]], 9)]
 [])
 else
 T.need
 [(0 : Int) ≤ (↑(List.length t + List.countP spB t) : Int) ∧
 (↑(List.length t + List.countP spB t) : Int) ≤ (↑(List.length t + List.countP spB t) : Int) ∧ (↑(List.length t + List.countP spB t) : Int) ≤ (1048576 : Int)]
 (T.bind (escLQ t) fun y3 =>
 T.need
 [St.mk
 (mkTm 122
 [(0, V.ptr 0 0), (1, V.str t),
 (12, V.sl 4 0 (Int.toNat (↑(List.length t + List.countP spB t) : Int)) ((↑(List.length t + List.countP spB t) : Int) == (↑(List.length t + List.countP spB t) : Int))),
 (13, V.int IntKind.i64 (0 : Int)), (14, V.int IntKind.i64 (0 : Int))])
 [(repB 1),
 some ([V.sld [V.int IntKind.u8 (92 : Int), V.int IntKind.u8 (34 : Int)]], 5), some ([V.sld [V.int IntKind.u8 (92 : Int), V.int IntKind.u8 (92 : Int)]], 5),
 some ([V.str [92], V.str [34]], 9), some ([V.sld (zeros [V.int IntKind.u8 (0 : Int)] (Int.toNat (↑(List.length t + List.countP spB t) : Int) * 1))], 5)]
 [] =
 St.mk
 (mkTm 122
 [(0, V.ptr 0 0), (1, V.str t),
 (12,
 V.sl 4 0 (List.length (List.replicate (Int.toNat (↑(List.length t + List.countP spB t) : Int)) (0 : UInt8)))
 ((↑(List.length t + List.countP spB t) : Int) == (↑(List.length t + List.countP spB t) : Int))),
 (13, V.int IntKind.i64 (0 : Int)), (14, V.int IntKind.i64 (0 : Int))])
 [(repB 1),
 some ([V.sld [V.int IntKind.u8 (92 : Int), V.int IntKind.u8 (34 : Int)]], 5), some ([V.sld [V.int IntKind.u8 (92 : Int), V.int IntKind.u8 (92 : Int)]], 5),
 some ([V.str [92], V.str [34]], 9), bytBQ (List.replicate (Int.toNat (↑(List.length t + List.countP spB t) : Int)) (0 : UInt8))]
 [],
 SoundC (Env.P (E116b t)) 4 (blk Tryz.prog fByteRep 4)
 (St.mk
 (mkTm 122
 [(0, V.ptr 0 0), (1, V.str t),
 (12,
 V.sl 4 0 (List.length (List.replicate (Int.toNat (↑(List.length t + List.countP spB t) : Int)) (0 : UInt8)))
 ((↑(List.length t + List.countP spB t) : Int) == (↑(List.length t + List.countP spB t) : Int))),
 (13, V.int IntKind.i64 (0 : Int)), (14, V.int IntKind.i64 (0 : Int))])
 [(repB 1),
 some ([V.sld [V.int IntKind.u8 (92 : Int), V.int IntKind.u8 (34 : Int)]], 5), some ([V.sld [V.int IntKind.u8 (92 : Int), V.int IntKind.u8 (92 : Int)]], 5),
 some ([V.str [92], V.str [34]], 9), bytBQ (List.replicate (Int.toNat (↑(List.length t + List.countP spB t) : Int)) (0 : UInt8))]
 [])
 (Ex.exit 4)
 (St.mk (mkTm 122 [(12, V.sl 4 0 (List.length y3) ((↑(List.length t + List.countP spB t) : Int) == (↑(List.length t + List.countP spB t) : Int)))])
 [(repB 1),
 some ([V.sld [V.int IntKind.u8 (92 : Int), V.int IntKind.u8 (34 : Int)]], 5), some ([V.sld [V.int IntKind.u8 (92 : Int), V.int IntKind.u8 (92 : Int)]], 5),
 some ([V.str [92], V.str [34]], 9), bytBQ y3]
 [])]
 (T.need [encs encByte y3 = byts (decL encByte (encs encByte y3)), 0 = 0, List.length (decL encByte (encs encByte y3) ++ []) = List.length y3]
 (T.done
 (Ret.mk (V.str (decL encByte (encs encByte y3) ++ []))
 [(repB 1),
 some ([V.sld [V.int IntKind.u8 (92 : Int), V.int IntKind.u8 (34 : Int)]], 5), some ([V.sld [V.int IntKind.u8 (92 : Int), V.int IntKind.u8 (92 : Int)]], 5),
 some ([V.str [92], V.str [34]], 9)]
 []))))) := by kernel_rfl

theorem zeros_byte (n : Nat) : zeros [V.int .u8 0] (n * 1) = encs encByte (List.replicate n 0) := by
  apply List.ext_getElem?
  intro i
  rw [Nat.mul_one, zeros, List.getElem?_map]
  have hl := layByte.length (List.replicate n (0 : UInt8))
  rw [List.length_replicate, Nat.mul_one] at hl
  by_cases h : i < n
  · have h2 := layByte.at (List.replicate n (0 : UInt8)) 0 i 1 (by simpa using h) rfl
    rw [Nat.mul_one] at h2
    have h3 : ((encs encByte (List.replicate n (0 : UInt8))).drop i)[0]? = some (.int .u8 (((List.replicate n (0 : UInt8)).getD i 0).toNat : Nat)) := by
      have := congrArg (·[0]?) h2
      simpa [encByte] using this
    rw [List.getElem?_drop, Nat.add_zero] at h3
    rw [h3, List.getElem?_range h]
    have h4 : (List.replicate n (0 : UInt8)).getD i 0 = 0 := by
      rw [List.getD_eq_getElem?_getD, List.getElem?_replicate]; split <;> rfl
    rw [h4]
    show some ([V.int .u8 0].getD (i % 1) .junk) = _
    rw [Nat.mod_one]; rfl
  · rw [List.getElem?_eq_none (by simpa using h), List.getElem?_eq_none (by omega)]; rfl

theorem byteRep_ok : ByteRep escLQ 500000 := by
  intro t ht
  refine fnOK_TL (E := E116b t) follows named (byteRepT t) (by simp) ?_
  have hcp := escL_count t
  have hcl : t.countP spB ≤ t.length := List.countP_le_length ..
  have hA := cntA_loop count_ok t (by omega) t.length (by omega)
  have hC := cntC_loop t (by omega) t.length 0 t.length false (by omega) (by omega)
  rw [List.drop_zero, Bool.false_or] at hC
  have hE : ∀ fl, LoopTo Tryz.prog 4 (lp Tryz.prog fByteRep 4) (stE t (List.replicate (t.length + t.countP spB) 0) 0 0 fl) (.exit 4) (stY (escLQ t) fl) := by
    intro fl
    have := cp_loop t (by omega) fl t.length [] (List.replicate (t.length + t.countP spB) 0) 0 (by omega) (by rw [List.drop_zero, hcp, List.length_replicate]) (by simp only [List.length_nil, List.length_replicate]; omega)
    rw [List.drop_zero, List.nil_append, List.nil_append] at this
    exact this
  have hz := zeros_byte (t.length + t.countP spB)
  have hd := layByte.decL (escLQ t)
  have hL : (List.replicate (t.length + t.countP spB) (0 : UInt8)).length = t.length + t.countP spB := List.length_replicate
  have none : ∀ h : (!t.any spB) = true, escLQ t = t := fun h => escL_none t (by simpa using h)
  simp only [WP_cond]
  refine ⟨fun _ => ?_, fun _ => ?_⟩
  · rintro y -
    refine ⟨⟨trivial, .loopTo hA, trivial⟩, ?_⟩
    rw [WP_cond]
    refine ⟨fun hn => ?_, fun _ => ?_⟩
    · rw [none hn]; exact ⟨rfl, rfl, by simp⟩
    · refine ⟨⟨by omega, trivial⟩, ?_⟩
      rintro y rfl
      refine ⟨⟨?_, ?_, trivial⟩, ⟨by rw [hd, byts_encs], trivial, by rw [hd, List.append_nil], trivial⟩, ?_⟩
      · rw [Int.toNat_natCast, hz, hL]; rfl
      · rw [Int.toNat_natCast, hL]
        have := hE (((t.length + t.countP spB : Nat) : Int) == ((t.length + t.countP spB : Nat) : Int))
        unfold stE at this
        rw [hL] at this
        exact .loopTo this
      · rw [hd, List.append_nil]; exact ⟨rfl, rfl, by simp⟩
  · rintro y -
    refine ⟨⟨trivial, .loopTo hC, trivial⟩, ?_⟩
    rw [WP_cond]
    refine ⟨fun hn => ?_, fun _ => ?_⟩
    · rw [none hn]; exact ⟨rfl, rfl, by simp⟩
    · refine ⟨⟨by omega, trivial⟩, ?_⟩
      rintro y rfl
      refine ⟨⟨?_, ?_, trivial⟩, ⟨by rw [hd, byts_encs], trivial, by rw [hd, List.append_nil], trivial⟩, ?_⟩
      · rw [Int.toNat_natCast, hz, hL]; rfl
      · rw [Int.toNat_natCast, hL]
        have := hE (((t.length + t.countP spB : Nat) : Int) == ((t.length + t.countP spB : Nat) : Int))
        unfold stE at this
        rw [hL] at this
        exact .loopTo this
      · rw [hd, List.append_nil]; exact ⟨rfl, rfl, by simp⟩

theorem replace_ok (t : List UInt8) (ht : t.length ≤ 500000) : FnOK Tryz.prog fReplace [.ptr 0 0, .str t] [some ([.int .u32 0, .int .i32 0, .int .u32 0, .lit .nilIface, .sl 1 0 4 false], tRep), oldB] ⟨.str (escLQ t), [none, none], [0, 1]⟩ := by
  refine dead_TL (E := ERep escLQ) follows named (replaceT escLQ t) rfl ?_
  rintro y -
  refine ⟨⟨do_ok, trivial⟩, ⟨rfl, rfl, replaceIs, trivial⟩, ?_⟩
  rintro y rfl
  exact ⟨⟨byteRep_ok t ht, trivial⟩, rfl⟩
theorem quoted_ok (t : List UInt8) (ht : t.length ≤ 500000) : FnOK Tryz.prog fQuoted [.str t] [] ⟨.str (34 :: escLQ t ++ [34]), [], []⟩ := by
  refine fnOK_TL (E := ERep escLQ) follows named (quotedT escLQ t) (by simp) ?_
  have hl : (escLQ t).length ≤ 1000000 := by
    have := escL_count t
    have : t.countP spB ≤ t.length := List.countP_le_length ..
    omega
  rintro y -
  refine ⟨⟨newRep_ok, trivial⟩, ?_⟩
  rintro y rfl
  exact ⟨⟨replace_ok t ht, trivial⟩, ⟨by omega, trivial⟩, ⟨by simp only [List.length_append, List.length_cons, List.length_nil]; omega, trivial⟩, ⟨rfl, rfl, by simp⟩⟩

end Go.Proofs.YtfncaghjfgnnhaaGreatDoor

namespace Go.Proofs.YtfncaghjfgnnhaaGreatDoor
open Go.RowKit
set_option maxRecDepth 100000

abbrev fIPrint : Nat := 34
abbrev fIPrintJson : Nat := 12
abbrev fJoin : Nat := 55
abbrev fItoa : Nat := 54
noncomputable def resIP : ResT := fun f vs hp => match vs, hp with
  | [.agg [.int _ k, .int _ n, .str t, .dsl _ _ ks, .dsl _ _ its]], [] => bif Nat.beq f fIPrint then some ⟨pj (jOf k n t ks its), fun y => ⟨.str y, [], []⟩⟩ else none
  | [.str t], [] => bif Nat.beq f fQuoted then some ⟨quo t, fun y => ⟨.str y, [], []⟩⟩ else none
  | [.int _ n], [] => bif Nat.beq f fItoa then some ⟨dg n, fun y => ⟨.str y, [], []⟩⟩ else none
  | [.sl 0 0 _ _, .str _], [some ([.sld cs], _)] => bif Nat.beq f fJoin then some ⟨Lib.join (decL encStr cs) [44], fun y => ⟨.str y, [none], [0]⟩⟩ else none
  | _, _ => none
noncomputable def EIP : Env := { P := Tryz.prog, vw := vwA, res := resIP }
abbrev tStr : Nat := 9
def stIP (j : J) (W : List (List UInt8)) (i : Int) (b : Bool) : St := ⟨mkTm 66 [(1, .ptr 0 0), (3, .sl 1 0 W.length b), (9, sls encJ j.items), (10, .int .i64 j.items.length), (11, .int .i64 i)], [some (vwJ j, tJ), some ([.sld (encs encStr W)], tStr)], []⟩
def nfIP : Ex → Kp := fun ex => match ex with
  | .normal => { keep := [1, 3, 9, 10, 11] }
  | _ => { keep := [1, 3] }
--FOLD vwJ
set_option maxRecDepth 100000 in
theorem iprT (j : J) (W : List (List UInt8)) (i : Int) (b : Bool) : bodyT EIP 0 nfIP (lp Tryz.prog fIPrint 0) (stIP j W i b) =
 bif decide (i < (↑(List.length (J.items j)) : Int)) then
 T.need
 [(0 : Int) ≤ i ∧ i < (↑(List.length (J.items j)) : Int),
 List.take 5 (List.drop (Int.toNat i * 5) (encs encJ (J.items j))) = vwJ (List.getD (decL encJ (encs encJ (J.items j))) (Int.toNat i) (J.mk (0 : Int) (0 : Int) [] [] []))]
 (T.bind
 (pj
 (jOf (J.kind (List.getD (decL encJ (encs encJ (J.items j))) (Int.toNat i) (J.mk (0 : Int) (0 : Int) [] [] [])))
 (J.n (List.getD (decL encJ (encs encJ (J.items j))) (Int.toNat i) (J.mk (0 : Int) (0 : Int) [] [] []))) (J.t (List.getD (decL encJ (encs encJ (J.items j))) (Int.toNat i) (J.mk (0 : Int) (0 : Int) [] [] [])))
 (encs encStr (J.keys (List.getD (decL encJ (encs encJ (J.items j))) (Int.toNat i) (J.mk (0 : Int) (0 : Int) [] [] []))))
 (encs encJ (J.items (List.getD (decL encJ (encs encJ (J.items j))) (Int.toNat i) (J.mk (0 : Int) (0 : Int) [] [] []))))))
 fun y0 =>
 T.need [FnOK (Env.P EIP) 34 [V.agg (vwJ (List.getD (decL encJ (encs encJ (J.items j))) (Int.toNat i) (J.mk (0 : Int) (0 : Int) [] [] [])))] [] (Ret.mk (V.str y0) [] [])]
 (bif J.kind j == (5 : Int) then
 T.need
 [(0 : Int) ≤ i ∧ i < (↑(List.length (J.keys j)) : Int),
 List.take 1 (List.drop (Int.toNat i * 1) (encs encStr (J.keys j))) = [V.str (List.getD (decL encStr (encs encStr (J.keys j))) (Int.toNat i) [])]]
 (T.bind (quo (List.getD (decL encStr (encs encStr (J.keys j))) (Int.toNat i) [])) fun y1 =>
 T.need [FnOK (Env.P EIP) 53 [V.str (List.getD (decL encStr (encs encStr (J.keys j))) (Int.toNat i) [])] [] (Ret.mk (V.str y1) [] [])]
 (T.need [List.length y1 + 1 ≤ 4611686018427387904]
 (T.need [List.length (y1 ++ [(58 : UInt8)]) + List.length y0 ≤ 4611686018427387904]
 (T.need
 [0 = 0, List.length (encs encStr W) = List.length W * 1, List.length W + 1 ≤ 9223372036854775807,
 (List.length W + 1) * 16 ≤ 140737488355328]
 (T.done
 (Ex.normal,
 St.mk
 (mkTm 66
 [(1, V.ptr 0 0), (3, V.sl 1 0 (List.length W + 1) false), (9, V.dsl (List.length (J.items j)) false (encs encJ (J.items j))),
 (10, V.int IntKind.i64 (↑(List.length (J.items j)) : Int)), (11, V.int IntKind.i64 (IntKind.wrap IntKind.i64 (i + (1 : Int))))])
 [some (vwJ j, 25), some ([V.sld (encs encStr W ++ [V.str (y1 ++ [(58 : UInt8)] ++ y0)])], 9)] []))))))
 else
 T.need
 [0 = 0, List.length (encs encStr W) = List.length W * 1, List.length W + 1 ≤ 9223372036854775807, (List.length W + 1) * 16 ≤ 140737488355328]
 (T.done
 (Ex.normal,
 St.mk
 (mkTm 66
 [(1, V.ptr 0 0), (3, V.sl 1 0 (List.length W + 1) false), (9, V.dsl (List.length (J.items j)) false (encs encJ (J.items j))),
 (10, V.int IntKind.i64 (↑(List.length (J.items j)) : Int)), (11, V.int IntKind.i64 (IntKind.wrap IntKind.i64 (i + (1 : Int))))])
 [some (vwJ j, 25), some ([V.sld (encs encStr W ++ [V.str y0])], 9)] []))))
 else
 T.done
 (Ex.exit 0, St.mk (mkTm 66 [(1, V.ptr 0 0), (3, V.sl 1 0 (List.length W) b)]) [some (vwJ j, 25), some ([V.sld (encs encStr W)], 9)] []) := by kernel_rfl
def stIPx (j : J) (W : List (List UInt8)) (b : Bool) : St := ⟨mkTm 66 [(1, .ptr 0 0), (3, .sl 1 0 W.length b)], [some (vwJ j, tJ), some ([.sld (encs encStr W)], tStr)], []⟩

theorem quoted_ok' (t : List UInt8) (ht : t.length ≤ 500000) : FnOK Tryz.prog fQuoted [.str t] [] ⟨.str (quo t), [], []⟩ := quoted_ok t ht
structure IPrOK (j : J) : Prop where
  items : ∀ x ∈ j.items, FnOK Tryz.prog fIPrint [.agg (vwJ x)] [] ⟨.str (pj x), [], []⟩ ∧ (pj x).length ≤ 1073741824
  keys : ∀ s ∈ j.keys, s.length ≤ 1000
  len : j.items.length ≤ 1048576
  obj : j.kind = 5 → j.items.length ≤ j.keys.length
theorem ipr_loop (j : J) (hj : IPrOK j) : ∀ (m : Nat) (W : List (List UInt8)) (i : Nat) (b : Bool), i + m = j.items.length → W.length = i → (1 ≤ i → b = false) →
    LoopTo Tryz.prog 0 (lp Tryz.prog fIPrint 0) (stIP j W i b) (.exit 0) (stIPx j (W ++ prts (j.kind == 5) (j.keys.drop i) (j.items.drop i)) (b && j.items.length == 0))
  | 0, W, i, b, h1, h2, h3 => by
    refine loopT (E := EIP) follows named (iprT j W i b) ?_
    obtain rfl : i = j.items.length := h1
    have hlen := hj.len
    simp only [WP_cond, T.WP, All, decide_eq_true_eq, decide_eq_false_iff_not, and_true, beq_iff_eq, beq_eq_false_iff_ne, ne_eq]
    refine ⟨fun h => by omega, fun _ => ⟨rfl, ?_⟩⟩
    have hb : (b && j.items.length == 0) = b := by
      rcases Nat.eq_zero_or_pos j.items.length with h | h
      · simp [h]
      · rw [h3 h]; rfl
    rw [List.drop_length, hb]
    simp [prts, stIPx]
  | m + 1, W, i, b, h1, h2, h3 => by
    refine loopT (E := EIP) follows named (iprT j W i b) ?_
    have hat := vwJ_at j.items i (by omega)
    have hlen := hj.len
    simp only [WP_cond, T.WP, All, decide_eq_true_eq, decide_eq_false_iff_not, and_true, beq_iff_eq, beq_eq_false_iff_ne, ne_eq, Int.toNat_natCast, layJ.decL, layStr.decL, wrap_succ (show i < 9223372036854775807 by omega), show J.mk 0 0 [] [] [] = J.zero from rfl]
    have hx : j.items.getD i J.zero ∈ j.items := by rw [List.getD_eq_getElem?_getD, List.getElem?_eq_getElem (by omega)]; exact List.getElem_mem _
    have hi := hj.items _ hx
    have ih := ipr_loop j hj m (W ++ [prt (j.kind == 5) (j.keys.getD i []) (j.items.getD i J.zero)]) (i + 1) false (by omega) (by simp [h2]) (fun _ => rfl)
    rw [List.append_assoc, List.singleton_append, ← prts_step _ i _ _ (by omega)] at ih
    have e : stIPx j (W ++ prts (j.kind == 5) (List.drop i j.keys) (List.drop i j.items)) (b && j.items.length == 0) = stIPx j (W ++ prts (j.kind == 5) (List.drop i j.keys) (List.drop i j.items)) (false && j.items.length == 0) := by
      rw [show (j.items.length == 0) = false by rw [beq_eq_false_iff_ne]; omega]; simp
    rw [e]
    refine ⟨fun _ => ⟨⟨by omega, hat⟩, ?_⟩, fun h => by omega⟩
    rintro y rfl
    rw [jOf_eta]
    refine ⟨hi.1, fun h5 => ?_, fun h5 => ?_⟩
    · have hk : i < j.keys.length := by have := hj.obj h5; omega
      have hkl := hj.keys (j.keys.getD i []) (by rw [List.getD_eq_getElem?_getD, List.getElem?_eq_getElem hk]; exact List.getElem_mem _)
      have hq := quo_len (j.keys.getD i [])
      have hat2 := layStr.at j.keys [] i 1 hk rfl
      refine ⟨⟨by omega, hat2⟩, ?_⟩
      rintro z rfl
      refine ⟨quoted_ok' _ (by omega), by omega, by have := hi.2; simp only [List.length_append, List.length_singleton]; omega, ⟨trivial, by rw [layStr.length], by omega, by omega⟩, ?_⟩
      simp only [prt, h5, beq_self_eq_true, if_true, stIP, encs_snoc, encStr, List.length_append, List.length_singleton] at ih ⊢
      exact ih
    · refine ⟨⟨trivial, by rw [layStr.length], by omega, by omega⟩, ?_⟩
      simp only [prt, show (j.kind == 5) = false by rw [beq_eq_false_iff_ne]; exact h5, Bool.false_eq_true, if_false, List.nil_append, stIP, encs_snoc, encStr, List.length_append, List.length_singleton] at ih ⊢
      exact ih
noncomputable def lsIPr (j : J) : Nat → St → Option LRes := fun id _ => match id with
  | 0 => some ⟨(prts (j.kind == 5) j.keys j.items, j.items.length == 0), fun y => .one { keep := [1, 3, 9, 10, 11] } (stIP j [] 0 true) (.exit 0) (stIPx j y.1 y.2)⟩
  | _ => none
noncomputable def EIPj (j : J) : Env := { P := Tryz.prog, vw := vwA, res := resIP, ls := lsIPr j, vs := [(12, 4, .str ([[102, 97, 108, 115, 101], [116, 114, 117, 101]].getD j.n.toNat []))] }
set_option maxRecDepth 100000 in
theorem iprintT (j : J) : fnT (EIPj j) 0 fIPrint [.agg (vwJ j)] [] =
 T.bind (prts (J.kind j == (5 : Int)) (J.keys j) (J.items j), List.length (J.items j) == 0) fun y0 =>
 T.need
 [St.mk
 (mkTm 66
 [(1, V.ptr 0 0), (3, V.sl 1 0 0 true), (9, V.dsl (List.length (J.items j)) false (encs encJ (J.items j))),
 (10, V.int IntKind.i64 (↑(List.length (J.items j)) : Int)), (11, V.int IntKind.i64 (0 : Int))])
 [some (vwJ j, 25), some ([V.sld []], 9)] [] =
 St.mk
 (mkTm 66
 [(1, V.ptr 0 0), (3, V.sl 1 0 0 true), (9, V.dsl (List.length (J.items j)) false (encs encJ (J.items j))),
 (10, V.int IntKind.i64 (↑(List.length (J.items j)) : Int)), (11, V.int IntKind.i64 (0 : Int))])
 [some (vwJ j, 25), some ([V.sld []], 9)] [],
 SoundC (Env.P (EIPj j)) 0 (blk Tryz.prog fIPrint 0)
 (St.mk
 (mkTm 66
 [(1, V.ptr 0 0), (3, V.sl 1 0 0 true), (9, V.dsl (List.length (J.items j)) false (encs encJ (J.items j))),
 (10, V.int IntKind.i64 (↑(List.length (J.items j)) : Int)), (11, V.int IntKind.i64 (0 : Int))])
 [some (vwJ j, 25), some ([V.sld []], 9)] [])
 (Ex.exit 0)
 (St.mk (mkTm 66 [(1, V.ptr 0 0), (3, V.sl 1 0 (List.length (Prod.fst y0)) (Prod.snd y0))])
 [some (vwJ j, 25), some ([V.sld (encs encStr (Prod.fst y0))], 9)] [])]
 (bif J.kind j == (1 : Int) then
 T.need [(0 : Int) ≤ J.n j ∧ J.n j < (2 : Int)]
 (T.need
 [[V.str [102, 97, 108, 115, 101], V.str [116, 114, 117, 101]][0 + Int.toNat (J.n j) * 1]? =
 some (V.str (List.getD [[(102 : UInt8), (97 : UInt8), (108 : UInt8), (115 : UInt8), (101 : UInt8)], [(116 : UInt8), (114 : UInt8), (117 : UInt8), (101 : UInt8)]] (Int.toNat (J.n j)) []))]
 (T.done (Ret.mk (V.str (List.getD [[(102 : UInt8), (97 : UInt8), (108 : UInt8), (115 : UInt8), (101 : UInt8)], [(116 : UInt8), (114 : UInt8), (117 : UInt8), (101 : UInt8)]] (Int.toNat (J.n j)) [])) [] [])))
 else
 bif J.kind j == (2 : Int) then T.bind (dg (J.n j)) fun y1 => T.need [FnOK (Env.P (EIPj j)) 54 [V.int IntKind.i64 (J.n j)] [] (Ret.mk (V.str y1) [] [])] (T.done (Ret.mk (V.str y1) [] []))
 else
 bif J.kind j == (3 : Int) then T.bind (quo (J.t j)) fun y2 => T.need [FnOK (Env.P (EIPj j)) 53 [V.str (J.t j)] [] (Ret.mk (V.str y2) [] [])] (T.done (Ret.mk (V.str y2) [] []))
 else
 bif J.kind j == (4 : Int) then
 T.bind (Lib.join (decL encStr (encs encStr (Prod.fst y0))) [(44 : UInt8)]) fun y3 =>
 T.need
 [FnOK (Env.P (EIPj j)) 55 [V.sl 0 0 (List.length (Prod.fst y0)) (Prod.snd y0), V.str [44]] [some ([V.sld (encs encStr (Prod.fst y0))], 9)]
 (Ret.mk (V.str y3) [none] [0])]
 (T.need [1 + List.length y3 ≤ 4611686018427387904]
 (T.need [List.length ([(91 : UInt8)] ++ y3) + 1 ≤ 4611686018427387904] (T.done (Ret.mk (V.str ([(91 : UInt8)] ++ y3 ++ [(93 : UInt8)])) [] []))))
 else
 bif J.kind j == (5 : Int) then
 T.bind (Lib.join (decL encStr (encs encStr (Prod.fst y0))) [(44 : UInt8)]) fun y4 =>
 T.need
 [FnOK (Env.P (EIPj j)) 55 [V.sl 0 0 (List.length (Prod.fst y0)) (Prod.snd y0), V.str [44]] [some ([V.sld (encs encStr (Prod.fst y0))], 9)]
 (Ret.mk (V.str y4) [none] [0])]
 (T.need [1 + List.length y4 ≤ 4611686018427387904]
 (T.need [List.length ([(123 : UInt8)] ++ y4) + 1 ≤ 4611686018427387904] (T.done (Ret.mk (V.str ([(123 : UInt8)] ++ y4 ++ [(125 : UInt8)])) [] []))))
 else T.done (Ret.mk (V.str [110, 117, 108, 108]) [] [])) := (T.force_eq _).symm.trans (by kernel_rfl)
theorem iprint_top (j : J) (h : PrTop j) (hk : 0 ≤ j.kind ∧ j.kind ≤ 5) (ht : j.t.length ≤ 500000) (hj : IPrOK j) (hlen : (pjs (j.kind == 5) true j.keys j.items).length ≤ 140737488355328) : FnOK Tryz.prog fIPrint [.agg (vwJ j)] [] ⟨.str (pj j), [], []⟩ := by
  refine fnOK_TL (E := EIPj j) follows named (iprintT j) (by simp) ?_
  simp only [WP_cond, T.WP, All, and_true, beq_iff_eq, beq_eq_false_iff_ne, ne_eq]
  rintro y rfl
  rw [layStr.decL]
  simp only [join_pjs]
  have h0 := ipr_loop j hj j.items.length [] 0 true (by omega) rfl (fun h => by omega)
  simp only [List.drop_zero, List.nil_append, Bool.true_and] at h0
  have hjoin : FnOK Tryz.prog fJoin [.sl 0 0 (prts (j.kind == 5) j.keys j.items).length (j.items.length == 0), .str [44]] [some ([.sld (encs encStr (prts (j.kind == 5) j.keys j.items))], tStr)] ⟨.str (pjs (j.kind == 5) true j.keys j.items), [none], [0]⟩ := by
    refine FnOK.give (cs := encs encStr (prts (j.kind == 5) j.keys j.items)) (by simp [V.refsL, V.refs]) (by simp [flat]) ?_
    have h1 := join_ok (prts (j.kind == 5) j.keys j.items) [44] (by rw [prts_len]; have := hj.len; omega) (by rw [join_pjs]; exact hlen)
    rw [join_pjs] at h1
    exact h1
  have hp := pj_eq j
  refine ⟨⟨trivial, .loopTo h0⟩, fun h1 => ⟨h.bool h1, ?_, by rw [hp, if_neg (by omega), if_pos h1], rfl, by simp⟩, fun h1 => ⟨fun h2 => ?_, fun h2 => ⟨fun h3 => ?_, fun h3 => ⟨fun h4 => ?_, fun h4 => ⟨fun h5 => ?_, fun h5 => ?_⟩⟩⟩⟩⟩
  · have := h.bool h1
    have h01 : j.n.toNat = 0 ∨ j.n.toNat = 1 := by omega
    rcases h01 with e | e <;> rw [e] <;> rfl
  · rintro y rfl
    refine ⟨?_, by rw [hp, if_neg (by omega), if_neg h1, if_pos h2], rfl, by simp⟩
    have := itoa_ok j.n ⟨by have := h.num; omega, h.num.2⟩
    rw [itoa_dg j.n h.num] at this
    exact this
  · rintro y rfl
    exact ⟨quoted_ok' _ ht, by rw [hp, if_neg (by omega), if_neg h1, if_neg h2, if_pos h3], rfl, by simp⟩
  · rintro y rfl
    refine ⟨hjoin, by omega, by simp only [List.length_append, List.length_singleton]; omega, ?_, rfl, by simp⟩
    rw [hp, if_neg (by omega), if_neg h1, if_neg h2, if_neg h3, if_neg (by omega), if_neg (by omega)]
  · rintro y rfl
    refine ⟨hjoin, by omega, by simp only [List.length_append, List.length_singleton]; omega, ?_, rfl, by simp⟩
    rw [hp, if_neg (by omega), if_neg h1, if_neg h2, if_neg h3, if_pos h5, if_pos h5]
  · refine ⟨?_, rfl, by simp⟩
    rw [hp, if_pos (by omega)]
end Go.Proofs.YtfncaghjfgnnhaaGreatDoor

namespace Go.Proofs.YtfncaghjfgnnhaaGreatDoor
open Go.RowKit
set_option maxRecDepth 100000

inductive RJ : J → Prop where
  | mk {j : J} (h : partJ j = true) (hi : ∀ x ∈ j.items, RJ x) : RJ j
theorem RJ.part {j : J} : RJ j → partJ j = true | .mk h _ => h
theorem RJ.item {j : J} : RJ j → ∀ x ∈ j.items, RJ x | .mk _ h => h
mutual
theorem rightJ_rj : ∀ (j : J) (d room : Int), 0 ≤ room → (rightJ j d room).1 = true → RJ j ∧ (rightJ j d room).2 + jn j = room
  | .mk k n t ks its, d, room, h, ht => by
    rw [rightJ] at ht ⊢
    split at ht
    · cases ht
    · rename_i hc
      rw [if_neg hc]
      simp only [not_or, Bool.not_eq_false] at hc
      have := rightJs_rj its (d + 1) (room - 1) (by omega) ht
      exact ⟨.mk hc.2.2 this.1, by rw [jn]; omega⟩
theorem rightJs_rj : ∀ (L : List J) (d room : Int), 0 ≤ room → (rightJs L d room).1 = true → (∀ x ∈ L, RJ x) ∧ (rightJs L d room).2 + jns L = room
  | [], d, room, h, ht => by rw [rightJs]; simp [jns]
  | j :: js, d, room, h, ht => by
    rw [rightJs] at ht ⊢
    split at ht
    · rename_i hc
      rw [if_pos hc]
      have h0 := rightJ_room j d room h hc
      have h1 := rightJ_rj j d room h hc
      have h2 := rightJs_rj js d _ h0.1 ht
      refine ⟨fun x hx => ?_, by rw [jns]; omega⟩
      rcases List.mem_cons.1 hx with rfl | hx
      · exact h1.1
      · exact h2.1 x hx
    · cases ht
end
theorem okJ_rj {j : J} (h : okJ j = true) : RJ j ∧ jn j ≤ 400 := by
  have h1 := rightJ_rj j 0 400 (by omega) h
  have h2 := rightJ_room j 0 400 (by omega) h
  exact ⟨h1.1, by omega⟩
structure Flds (j : J) : Prop where
  kind : 0 ≤ j.kind ∧ j.kind ≤ 5
  n : -1000000000 ≤ j.n ∧ j.n ≤ 1000000000
  bool : j.kind = 1 → 0 ≤ j.n ∧ j.n < 2
  t : j.t.length ≤ 200
  keys : ∀ s ∈ j.keys, s.length ≤ 200
  obj : j.kind = 5 → j.items.length = j.keys.length
  kl : j.keys.length ≤ j.items.length
theorem areK_mem : ∀ {ks : List (List UInt8)}, areK ks = true → ∀ s ∈ ks, plainT s = true
  | [], _, s, hs => by cases hs
  | [k], h, s, hs => by simp only [List.mem_singleton] at hs; subst hs; exact h
  | k :: k' :: t, h, s, hs => by
    rw [areK, Bool.and_eq_true, Bool.and_eq_true] at h
    rcases List.mem_cons.1 hs with rfl | hs
    · exact h.1.1
    · exact areK_mem h.2 s hs
theorem plainT_len {t : List UInt8} (h : plainT t = true) : t.length ≤ 200 := by
  unfold plainT at h; rw [Bool.and_eq_true, decide_eq_true_eq] at h; exact h.2
theorem part_flds {j : J} (h : partJ j = true) : Flds j := by
  obtain ⟨k, n, t, ks, its⟩ := j
  have hp := @plainT_len t
  have hk := @areK_mem ks
  unfold partJ at h
  by_cases h0 : k = 0
  · subst h0; simp at h; obtain ⟨⟨⟨rfl, rfl⟩, rfl⟩, rfl⟩ := h; constructor <;> simp [J.kind, J.n, J.t, J.keys, J.items]
  by_cases h1 : k = 1
  · subst h1; simp at h; obtain ⟨⟨⟨h, rfl⟩, rfl⟩, rfl⟩ := h; constructor <;> simp [J.kind, J.n, J.t, J.keys, J.items] <;> omega
  by_cases h2 : k = 2
  · subst h2; simp at h; obtain ⟨⟨⟨h, rfl⟩, rfl⟩, rfl⟩ := h; constructor <;> simp [J.kind, J.n, J.t, J.keys, J.items] <;> omega
  by_cases h3 : k = 3
  · subst h3; simp at h; obtain ⟨⟨⟨rfl, h⟩, rfl⟩, rfl⟩ := h; constructor <;> simp [J.kind, J.n, J.t, J.keys, J.items]; exact hp h
  by_cases h4 : k = 4
  · subst h4; simp at h; obtain ⟨⟨rfl, rfl⟩, rfl⟩ := h; constructor <;> simp [J.kind, J.n, J.t, J.keys, J.items]
  by_cases h5 : k = 5
  · subst h5; simp at h; obtain ⟨⟨⟨rfl, rfl⟩, he⟩, h⟩ := h; constructor <;> simp [J.kind, J.n, J.t, J.keys, J.items]
    · exact fun s hs => plainT_len (hk h s hs)
    · omega
    · omega
  · simp [h0, h1, h2, h3, h4, h5] at h
theorem dg_small (n : Int) (_ : -1000000000 ≤ n ∧ n ≤ 1000000000) : (dg n).length ≤ 400 := by
  have := dg_len n; omega
mutual
theorem pj_len : ∀ (j : J), RJ j → (pj j).length + 404 ≤ 900 * jn j
  | .mk k n t ks its, h => by
    have hf := part_flds h.part
    have hs := pjs_len2 (k == 5) its h.item true ks hf.keys
    have ht := quo_len t
    have hd := dg_small n hf.n
    have h1 := hf.t
    have h2 := hf.kind
    simp only [J.t, J.kind] at h1 h2
    rw [pj, jn]
    skip
    have hb : ([[102, 97, 108, 115, 101], [116, 114, 117, 101]].getD n.toNat ([] : List UInt8)).length ≤ 5 := by
      rcases n.toNat with _ | _ | m <;> simp
    have e1 : (if k = 5 then [123] else [91] : List UInt8).length = 1 := by split <;> rfl
    have e2 : (if k = 5 then [125] else [93] : List UInt8).length = 1 := by split <;> rfl
    by_cases c0 : k = 0
    · rw [if_pos c0]; simp only [List.length_cons, List.length_nil]; omega
    by_cases c1 : k = 1
    · rw [if_neg c0, if_pos c1]; omega
    by_cases c2 : k = 2
    · rw [if_neg c0, if_neg c1, if_pos c2]; omega
    by_cases c3 : k = 3
    · rw [if_neg c0, if_neg c1, if_neg c2, if_pos c3]; omega
    · rw [if_neg c0, if_neg c1, if_neg c2, if_neg c3]; simp only [List.length_append, e1, e2]; omega
theorem pjs_len2 : ∀ (o : Bool) (L : List J), (∀ x ∈ L, RJ x) → ∀ (a : Bool) (ks : List (List UInt8)), (∀ s ∈ ks, s.length ≤ 200) → (pjs o a ks L).length ≤ 900 * jns L
  | _, [], _, a, ks, _ => by simp [pjs]
  | o, j :: js, h, a, ks, hk => by
    have h1 := pj_len j (h j (by simp))
    have h2 := pjs_len2 o js (fun x hx => h x (by simp [hx])) false ks.tail (fun s hs => hk s (List.mem_of_mem_tail hs))
    have h3 := quo_len (ks.headD [])
    have h4 : (ks.headD []).length ≤ 200 := by
      cases ks with
      | nil => simp
      | cons k t => exact hk k (by simp)
    rw [pjs, jns]
    simp only [List.length_append]
    have h5 : (if a = true then ([] : List UInt8) else [44]).length ≤ 1 := by split <;> simp
    have h6 : (if o = true then quo (ks.headD []) ++ [58] else []).length ≤ 403 := by split; (simp only [List.length_append, List.length_singleton]; omega); simp
    omega
end
theorem jns_mem {L : List J} : ∀ x ∈ L, jn x ≤ jns L := by
  induction L with
  | nil => simp
  | cons j js ih =>
    intro x hx
    rw [jns]
    rcases List.mem_cons.1 hx with rfl | hx
    · omega
    · have := ih x hx; omega
theorem jns_length : ∀ L : List J, L.length ≤ jns L
  | [] => by simp
  | j :: js => by
    have := jns_length js
    obtain ⟨k, n, t, ks, its⟩ := j
    rw [jns, jn, List.length_cons]; omega
theorem iprint_ok : ∀ (m : Nat) (j : J), jn j ≤ m → m ≤ 1000 → RJ j → FnOK Tryz.prog fIPrint [.agg (vwJ j)] [] ⟨.str (pj j), [], []⟩
  | 0, .mk k n t ks its, hm, _, _ => by rw [jn] at hm; omega
  | m + 1, j, hm, hm2, h => by
    have hf := part_flds h.part
    have hn : jn j = 1 + jns j.items := by obtain ⟨k, n, t, ks, its⟩ := j; rw [jn]; rfl
    have hl := jns_length j.items
    have hs := pjs_len2 (j.kind == 5) j.items h.item true j.keys hf.keys
    refine iprint_top j ⟨hf.bool, by have := hf.n; omega, by have := hf.t; omega⟩ hf.kind (by have := hf.t; omega) ⟨fun x hx => ⟨iprint_ok m x (by have := jns_mem x hx; omega) (by omega) (h.item x hx), ?_⟩, fun s hs => by have := hf.keys s hs; omega, by omega, fun h5 => by have := hf.obj h5; omega⟩ (by omega)
    have := pj_len x (h.item x hx)
    have := jns_mem x hx
    omega
end Go.Proofs.YtfncaghjfgnnhaaGreatDoor

namespace Go.Proofs.YtfncaghjfgnnhaaGreatDoor
open Go.RowKit
set_option maxRecDepth 100000

abbrev fSource : Nat := 32
def srcNew (l : List UInt8) : Src := ⟨l, 0, (l.length % 1000 : Nat)⟩
set_option maxRecDepth 100000 in
theorem sourceT (l : List UInt8) : fnT E0 1 fSource [sls encByte l] [] =
 T.need [(1000 : Int) ≠ (0 : Int)]
 (T.done (Ret.mk (V.ptr 0 0) [some ([V.dsl (List.length l) false (encs encByte l), V.int IntKind.i64 (0 : Int), V.int IntKind.i64 (Int.tmod (↑(List.length l) : Int) (1000 : Int))], 67)] [])) := (T.force_eq _).symm.trans (by kernel_rfl)

theorem source_ok (l : List UInt8) : FnOK Tryz.prog fSource [sls encByte l] [] ⟨.ptr 0 0, [srcB (srcNew l)], []⟩ := by
  refine fnOK_TL (E := E0) follows named (sourceT l) (by simp) ?_
  simp only [T.WP, All, and_true, ne_eq]
  refine ⟨by omega, rfl, ?_, by simp⟩
  have e : ((l.length : Int)).tmod 1000 = ((l.length % 1000 : Nat) : Int) := by
    rw [Int.tmod_eq_emod_of_nonneg (by omega)]; omega
  rw [e]; rfl
theorem srcNew_ok (l : List UInt8) (h : l.length ≤ 1048576) : (srcNew l).OK 1000000 := ⟨h, by simp [srcNew], by simp only [srcNew]; omega, by simp only [srcNew]; omega⟩
end Go.Proofs.YtfncaghjfgnnhaaGreatDoor

namespace Go.Proofs.YtfncaghjfgnnhaaGreatDoor
open Go.RowKit
set_option maxRecDepth 100000

abbrev fDrawn : Nat := 11
noncomputable def resPJ : ResT := fun f vs hp => match vs, hp with
  | [.agg [.int _ k, .int _ n, .str t, .dsl _ _ ks, .dsl _ _ its]], [] => bif Nat.beq f fIJsonOK then some ⟨okJ (jOf k n t ks its), fun y => ⟨.bool y, [], []⟩⟩ else bif Nat.beq f fIPrint then some ⟨pj (jOf k n t ks its), fun y => ⟨.str y, [], []⟩⟩ else none
  | _, _ => none
set_option maxRecDepth 100000 in
theorem printJsonT (j : J) : fnT { P := Tryz.prog, vw := vwA, res := resPJ } 0 fIPrintJson [.agg (vwJ j)] [] =
 T.bind (okJ (jOf (J.kind j) (J.n j) (J.t j) (encs encStr (J.keys j)) (encs encJ (J.items j)))) fun y0 =>
 T.need
 [FnOK (Env.P (Env.mk Tryz.prog vwA resPJ (fun _ _ => none) [] [] none (MapE.mk (fun _ _ _ => none) fun _ _ _ _ => none) fun _ _ _ _ _ => none)) 15
 [V.agg [V.int IntKind.i64 (J.kind j), V.int IntKind.i64 (J.n j), V.str (J.t j), V.dsl (List.length (J.keys j)) false (encs encStr (J.keys j)), V.dsl (List.length (J.items j)) false (encs encJ (J.items j))]] []
 (Ret.mk (V.bool y0) [] [])]
 (bif !y0 then T.done (Ret.mk (V.tup [V.str [], V.int IntKind.i64 (1 : Int)]) [] [])
 else
 T.bind (pj (jOf (J.kind j) (J.n j) (J.t j) (encs encStr (J.keys j)) (encs encJ (J.items j)))) fun y1 =>
 T.need
 [FnOK (Env.P (Env.mk Tryz.prog vwA resPJ (fun _ _ => none) [] [] none (MapE.mk (fun _ _ _ => none) fun _ _ _ _ => none) fun _ _ _ _ _ => none)) 34
 [V.agg [V.int IntKind.i64 (J.kind j), V.int IntKind.i64 (J.n j), V.str (J.t j), V.dsl (List.length (J.keys j)) false (encs encStr (J.keys j)), V.dsl (List.length (J.items j)) false (encs encJ (J.items j))]]
 [] (Ret.mk (V.str y1) [] [])]
 (T.done (Ret.mk (V.tup [V.str y1, V.int IntKind.i64 (0 : Int)]) [] []))) := (T.force_eq _).symm.trans (by kernel_rfl)
theorem RJ.mj {j : J} (h : RJ j) (m : Nat) (hm : jn j ≤ m) (hm2 : m ≤ 4294967296) : MJ j := by
  induction m generalizing j with
  | zero => obtain ⟨k, n, t, ks, its⟩ := j; rw [jn] at hm; omega
  | succ m ih =>
    have hf := part_flds h.part
    have hn : jn j = 1 + jns j.items := by obtain ⟨k, n, t, ks, its⟩ := j; rw [jn]; rfl
    have hl := jns_length j.items
    refine .mk ⟨by have := hf.t; omega, by have := hf.kl; omega, fun s hs => by have := hf.keys s hs; omega⟩ (by omega) fun x hx => ih (h.item x hx) (by have := jns_mem x hx; omega) (by omega)
theorem printJson_ok (j : J) (h : okJ j = true) : FnOK Tryz.prog fIPrintJson [.agg (vwJ j)] [] ⟨.tup [.str (pj j), .int .i64 0], [], []⟩ := by
  refine fnOK_TL (E := { P := Tryz.prog, vw := vwA, res := resPJ }) follows named (printJsonT j) (by simp) ?_
  have hr := okJ_rj h
  simp only [WP_cond, T.WP, All, and_true, jOf_vw]
  rintro y rfl
  refine ⟨jsonOK_ok j (hr.1.mj 400 hr.2 (by omega)), fun h0 => by rw [h] at h0; simp at h0, fun _ => ?_⟩
  rintro y rfl
  exact ⟨iprint_ok 400 j hr.2 (by omega) hr.1, ⟨rfl, rfl, by simp⟩⟩
noncomputable def resDrn : ResT := fun f vs hp => match vs, hp with
  | [.dsl _ _ cs], [] => bif Nat.beq f fSource then some ⟨(), fun _ => ⟨.ptr 0 0, [srcB (srcNew (decL encByte cs))], []⟩⟩ else none
  | [.ptr 0 0, .int _ _], [some ([.dsl _ _ cs, .int _ k, .int _ s], _)] => bif Nat.beq f fJson then some ⟨jsonF 3 (srcOf cs k s), fun y => ⟨.agg (vwJ y.1), [srcB y.2], [0]⟩⟩ else none
  | _, _ => none
--FOLD vwJ
set_option maxRecDepth 100000 in
theorem drawnT (l : List UInt8) : fnT { P := Tryz.prog, vw := vwA, res := resDrn } 0 fDrawn [sls encByte l] [] =
 T.bind PUnit.unit fun _ =>
 T.need
 [FnOK (Env.P (Env.mk Tryz.prog vwA resDrn (fun _ _ => none) [] [] none (MapE.mk (fun _ _ _ => none) fun _ _ _ _ => none) fun _ _ _ _ _ => none)) 32
 [V.dsl (List.length l) false (encs encByte l)] []
 (Ret.mk (V.ptr 0 0)
 [some
 ([V.dsl (List.length (Src.l (srcNew (decL encByte (encs encByte l))))) false (encs encByte (Src.l (srcNew (decL encByte (encs encByte l))))), V.int IntKind.i64 (0 : Int),
 V.int IntKind.i64 (Src.s (srcNew (decL encByte (encs encByte l))))],
 67)]
 [])]
 (T.bind (jsonF 3 (srcOf (encs encByte (Src.l (srcNew (decL encByte (encs encByte l))))) (0 : Int) (Src.s (srcNew (decL encByte (encs encByte l)))))) fun y1 =>
 T.need
 [FnOK (Env.P (Env.mk Tryz.prog vwA resDrn (fun _ _ => none) [] [] none (MapE.mk (fun _ _ _ => none) fun _ _ _ _ => none) fun _ _ _ _ _ => none)) 33
 [V.ptr 0 0, V.int IntKind.i64 (3 : Int)]
 [some
 ([V.dsl (List.length (Src.l (srcNew (decL encByte (encs encByte l))))) false (encs encByte (Src.l (srcNew (decL encByte (encs encByte l))))), V.int IntKind.i64 (0 : Int),
 V.int IntKind.i64 (Src.s (srcNew (decL encByte (encs encByte l))))],
 67)]
 (Ret.mk (V.agg (vwJ (Prod.fst y1)))
 [some ([V.dsl (List.length (Src.l (Prod.snd y1))) false (encs encByte (Src.l (Prod.snd y1))), V.int IntKind.i64 (↑(Src.k (Prod.snd y1)) : Int), V.int IntKind.i64 (Src.s (Prod.snd y1))], 67)]
 [0])]
 (T.done (Ret.mk (V.agg (vwJ (Prod.fst y1))) [] []))) := (T.force_eq _).symm.trans (by kernel_rfl)
def drawnJ (l : List UInt8) : J := (jsonF 3 (srcNew l)).1
theorem drawn_ok (l : List UInt8) (h : l.length ≤ 1048576) : FnOK Tryz.prog fDrawn [sls encByte l] [] ⟨.agg (vwJ (drawnJ l)), [], []⟩ := by
  refine fnOK_TL (E := { P := Tryz.prog, vw := vwA, res := resDrn }) follows named (drawnT l) (by simp) ?_
  simp only [T.WP, All, and_true, layByte.decL]
  have hs : (0 + qF 3) ≤ 1000000 := by decide
  have h0 : (srcNew l).OK (0 + qF 3) := Src.OK.less (srcNew_ok l h) hs
  rintro - -
  refine ⟨source_ok l, ?_⟩
  rw [show srcOf (encs encByte (srcNew l).l) 0 (srcNew l).s = srcNew l from srcOf_mk (srcNew l)]
  rintro y rfl
  exact ⟨(json_draw 3 (by omega)).call _ 0 h0, ⟨rfl, rfl, by simp⟩⟩
theorem drawn_dr (l : List UInt8) (h : l.length ≤ 1048576) : Dr 3 (drawnJ l) ∧ (pj (drawnJ l)).length ≤ bF 3 := by
  have hs : (0 + qF 3) ≤ 1000000 := by decide
  have h0 : (srcNew l).OK (0 + qF 3) := Src.OK.less (srcNew_ok l h) hs
  exact ⟨json_dr 3 (by omega) _ 0 h0, (json_pr 3 (by omega) _ 0 h0).len⟩
theorem one_ok {j : J} (h : Dr 3 j) : FnOK Tryz.prog fIPrintJson [.agg [.int .i64 4, .int .i64 0, .str [], .dsl 0 true [], .sl 0 0 1 true]] [some (vwJ j, tJ)] ⟨.tup [.str (pj (one j)), .int .i64 0], [none], [0]⟩ := by
  refine FnOK.give (cs := vwJ j) (by simp [vwJ, V.refsL, V.refs]) (by simp [flat, vwJ]) ?_
  have h1 := printJson_ok (one j) (one_right h)
  have e : lendL (vwJ j) [.agg [.int .i64 4, .int .i64 0, .str [], .dsl 0 true [], .sl 0 0 1 true]] = [.agg (vwJ (one j))] := by
    rw [show vwJ (one j) = [.int .i64 4, .int .i64 0, .str [], sls encStr ([] : List (List UInt8)), sls encJ [j]] from rfl]
    simp [lendL, lend, sls, encs, encJ_vw]
  rw [e]; exact h1
end Go.Proofs.YtfncaghjfgnnhaaGreatDoor

namespace Go.Proofs.YtfncaghjfgnnhaaGreatDoor
open Go.RowKit
set_option maxRecDepth 100000

abbrev tRd : Nat := 64
abbrev fBlk : Nat := 79
abbrev fDgt : Nat := 100
abbrev fSkip : Nat := 48
abbrev fTake : Nat := 73
abbrev fWant : Nat := 97
abbrev fPfx : Nat := 95

def pos' (t s : List UInt8) : Nat := t.length - s.length
theorem pos_cons {t s : List UInt8} {c : UInt8} (h : (c :: s) <:+ t) : t.getD (pos' t (c :: s)) 0 = c ∧ pos' t (c :: s) + 1 = pos' t s ∧ pos' t (c :: s) < t.length := by
  obtain ⟨p, rfl⟩ := h
  unfold pos'
  have e : (p ++ c :: s).length - (c :: s).length = p.length := by simp
  rw [e]
  refine ⟨by simp, by simp only [List.length_append, List.length_cons]; omega, by simp⟩
theorem pos_nil (t : List UInt8) : pos' t [] = t.length := by simp [pos']
theorem pos_self (t : List UInt8) : pos' t t = 0 := by simp [pos']
theorem drop_pos {t s : List UInt8} (h : s <:+ t) : t.drop (pos' t s) = s := by
  obtain ⟨p, rfl⟩ := h
  unfold pos'
  have e : (p ++ s).length - s.length = p.length := by simp
  rw [e, List.drop_left]
theorem pos_le {t s : List UInt8} (h : s <:+ t) : pos' t s + s.length = t.length := by
  have := h.length_le
  unfold pos'; omega
theorem suf_tail {t s : List UInt8} {c : UInt8} (h : (c :: s) <:+ t) : s <:+ t := (List.suffix_cons c s).trans h
theorem suf_drop {t s : List UInt8} (n : Nat) (h : s <:+ t) : s.drop n <:+ t := (List.drop_suffix n s).trans h
theorem pos_drop {t s : List UInt8} {n : Nat} (h : s <:+ t) (hn : n ≤ s.length) : pos' t (s.drop n) = pos' t s + n := by
  have := h.length_le
  unfold pos'; rw [List.length_drop]; omega

def rdB (t s : List UInt8) (bad : Bool) (room : Int) : Option Blk := some ([.str t, .int .i64 (pos' t s : Nat), .bool bad, .int .i64 room], tRd)
def rdI (t : List UInt8) (i : Int) (bad : Bool) (room : Int) : Option Blk := some ([.str t, .int .i64 i, .bool bad, .int .i64 room], tRd)

set_option maxRecDepth 100000 in
theorem iblankT (n : Int) : fnT E0 0 fBlk [.int .u8 n] [] =
 bif n == (32 : Int) then T.done (Ret.mk (V.bool true) [] [])
 else bif n == (9 : Int) then T.done (Ret.mk (V.bool true) [] []) else bif n == (10 : Int) then T.done (Ret.mk (V.bool true) [] []) else T.done (Ret.mk (V.bool (n == (13 : Int))) [] []) := by kernel_rfl
def blkI (b : Int) : Bool := b == 32 || b == 9 || b == 10 || b == 13
theorem iblank_ok (n : Int) : FnOK Tryz.prog fBlk [.int .u8 n] [] ⟨.bool (blkI n), [], []⟩ := by
  refine fnOK_TL (E := E0) follows named (iblankT n) (by simp) ?_
  simp only [WP_cond, T.WP, beq_iff_eq, beq_eq_false_iff_ne, ne_eq]
  unfold blkI
  repeat' with_reducible first
    | intro h
    | apply And.intro
  all_goals first
    | (simp [*, RetLe]; done)
    | (exfalso; simp_all; done)
set_option maxRecDepth 100000 in
theorem idigitT (n : Int) : fnT E0 0 fDgt [.int .u8 n] [] =
 bif decide (n ≥ (48 : Int)) then T.done (Ret.mk (V.bool (decide (n ≤ (57 : Int)))) [] []) else T.done (Ret.mk (V.bool false) [] []) := by kernel_rfl
def dgtI (b : Int) : Bool := decide (48 ≤ b) && decide (b ≤ 57)
theorem idigit_ok (n : Int) : FnOK Tryz.prog fDgt [.int .u8 n] [] ⟨.bool (dgtI n), [], []⟩ := by
  refine fnOK_TL (E := E0) follows named (idigitT n) (by simp) ?_
  simp only [WP_cond, T.WP, decide_eq_true_eq, decide_eq_false_iff_not]
  unfold dgtI
  refine ⟨fun h => ⟨?_, rfl, by simp⟩, fun h => ⟨?_, rfl, by simp⟩⟩
  · simp [h]
  · simp [h]
abbrev fPfx1 : Nat := 107
set_option maxRecDepth 100000 in
theorem ipfx1T (s p : List UInt8) : fnT E0 0 fPfx1 [.str s, .str p] [] =
 bif decide ((↑(List.length s) : Int) ≥ (↑(List.length p) : Int)) then
 T.need [(0 : Int) ≤ (↑(List.length p) : Int) ∧ (↑(List.length p) : Int) ≤ (↑(List.length s) : Int)] (T.done (Ret.mk (V.bool (List.drop 0 (List.take (Int.toNat (↑(List.length p) : Int)) s) == p)) [] []))
 else T.done (Ret.mk (V.bool false) [] []) := by kernel_rfl
def pfx (p s : List UInt8) : Bool := s.take p.length == p
theorem pfx_len {p s : List UInt8} (h : pfx p s = true) : p.length ≤ s.length := by
  have := congrArg List.length (eq_of_beq h)
  rw [List.length_take] at this; omega
theorem ipfx1_ok (s p : List UInt8) : FnOK Tryz.prog fPfx1 [.str s, .str p] [] ⟨.bool (pfx p s), [], []⟩ := by
  refine fnOK_TL (E := E0) follows named (ipfx1T s p) (by simp) ?_
  simp only [WP_cond, T.WP, All, decide_eq_true_eq, decide_eq_false_iff_not, and_true]
  refine ⟨fun h => ⟨by omega, ?_, rfl, by simp⟩, fun h => ⟨?_, rfl, by simp⟩⟩
  · simp only [Int.toNat_natCast]
    rfl
  · refine congrArg V.bool ?_
    cases hp : pfx p s with
    | false => rfl
    | true => have := pfx_len hp; omega
noncomputable def resPx : ResT := fun f vs hp => match vs, hp with
  | [.str s, .str p], [] => bif Nat.beq f fPfx1 then some ⟨pfx p s, fun y => ⟨.bool y, [], []⟩⟩ else none
  | _, _ => none
set_option maxRecDepth 100000 in
theorem ipfxT (s p : List UInt8) : fnT { P := Tryz.prog, vw := vwA, res := resPx } 0 fPfx [.str s, .str p] [] =
 T.bind (pfx p s) fun y0 =>
 T.need
 [FnOK (Env.P (Env.mk Tryz.prog vwA resPx (fun _ _ => none) [] [] none (MapE.mk (fun _ _ _ => none) fun _ _ _ _ => none) fun _ _ _ _ _ => none)) 107 [V.str s, V.str p] []
 (Ret.mk (V.bool y0) [] [])]
 (T.done (Ret.mk (V.bool y0) [] [])) := (T.force_eq _).symm.trans (by kernel_rfl)
theorem ipfx_ok (s p : List UInt8) : FnOK Tryz.prog fPfx [.str s, .str p] [] ⟨.bool (pfx p s), [], []⟩ := by
  refine fnOK_TL (E := { P := Tryz.prog, vw := vwA, res := resPx }) follows named (ipfxT s p) (by simp) ?_
  simp only [T.WP, All, and_true]
  rintro y rfl
  exact ⟨ipfx1_ok s p, ⟨rfl, rfl, by simp⟩⟩

noncomputable def resSk : ResT := fun f vs hp => match vs, hp with
  | [.int _ n], [] => bif Nat.beq f fBlk then some ⟨blkI n, fun y => ⟨.bool y, [], []⟩⟩ else bif Nat.beq f fDgt then some ⟨dgtI n, fun y => ⟨.bool y, [], []⟩⟩ else none
  | [.str s, .str p], [] => bif Nat.beq f fPfx then some ⟨pfx p s, fun y => ⟨.bool y, [], []⟩⟩ else none
  | _, _ => none
noncomputable def ESk : Env := { P := Tryz.prog, vw := vwA, res := resSk }
def stSk (t : List UInt8) (i : Int) (bad : Bool) (room : Int) : St := ⟨mkTm 31 [(0, .ptr 0 0)], [rdI t i bad room], [0]⟩
def nfSk : Ex → Kp := fun ex => match ex with
  | .normal => { keep := [0], wr := [0] }
  | _ => { keep := [], wr := [0] }
--FOLD rdI
set_option maxRecDepth 100000 in
theorem skipL0 (t : List UInt8) (i : Int) (bad : Bool) (room : Int) : bodyT ESk 1 nfSk (lp Tryz.prog fSkip 0) (stSk t i bad room) =
 bif decide (i < (↑(List.length t) : Int)) then
 T.need [(0 : Int) ≤ i ∧ i < (↑(List.length t) : Int)]
 (T.bind (blkI (↑(UInt8.toNat (List.getD t (Int.toNat i) (0 : UInt8))) : Int)) fun y0 =>
 T.need [FnOK (Env.P ESk) 79 [V.int IntKind.u8 (↑(UInt8.toNat (List.getD t (Int.toNat i) (0 : UInt8))) : Int)] [] (Ret.mk (V.bool y0) [] [])]
 (bif y0 then T.done (Ex.normal, St.mk (mkTm 31 [(0, V.ptr 0 0)]) [rdI t (IntKind.wrap IntKind.i64 (i + (1 : Int))) bad room] [0])
 else T.done (Ex.exit 0, St.mk (mkTm 31 []) [rdI t i bad room] [0])))
 else T.done (Ex.exit 0, St.mk (mkTm 31 []) [rdI t i bad room] [0]) := by kernel_rfl
def blkC (c : UInt8) : Bool := blkI (c.toNat : Nat)
def skp (s : List UInt8) : List UInt8 := s.dropWhile blkC
theorem skp_suf {t s : List UInt8} (h : s <:+ t) : skp s <:+ t := (List.dropWhile_suffix _).trans h
theorem skip_loop {t : List UInt8} (ht : t.length ≤ 4294967296) (bad : Bool) (room : Int) : ∀ s : List UInt8, s <:+ t →
    LoopTo Tryz.prog 1 (lp Tryz.prog fSkip 0) (stSk t (pos' t s : Nat) bad room) (.exit 0) ⟨mkTm 31 [], [rdI t (pos' t (skp s) : Nat) bad room], [0]⟩
  | [], h => by
    refine loopT (E := ESk) follows named (skipL0 t (pos' t [] : Nat) bad room) ?_
    rw [pos_nil]
    simp only [WP_cond, T.WP, All, decide_eq_true_eq, decide_eq_false_iff_not, and_true]
    refine ⟨fun h => by omega, fun _ => ⟨rfl, ?_⟩⟩
    rw [show skp [] = [] from rfl, pos_nil]
  | c :: s, h => by
    refine loopT (E := ESk) follows named (skipL0 t (pos' t (c :: s) : Nat) bad room) ?_
    obtain ⟨h1, h2, h3⟩ := pos_cons h
    have ih := skip_loop ht bad room s (suf_tail h)
    simp only [WP_cond, T.WP, All, decide_eq_true_eq, decide_eq_false_iff_not, and_true, Int.toNat_natCast, h1]
    refine ⟨fun _ => ⟨by omega, ?_⟩, fun h => by omega⟩
    rintro y rfl
    refine ⟨iblank_ok _, fun hb => ?_, fun hb => ⟨rfl, ?_⟩⟩
    · rw [wrap_succ (by omega), h2, show skp (c :: s) = skp s by unfold skp; rw [List.dropWhile_cons_of_pos (by exact hb)]]
      exact ih
    · rw [show skp (c :: s) = c :: s by unfold skp; rw [List.dropWhile_cons_of_neg (by unfold blkC; rw [hb]; simp)]]
noncomputable def lsSk (t s : List UInt8) (bad : Bool) (room : Int) : Nat → St → Option LRes := fun id _ => match id with
  | 0 => some ⟨(), fun _ => .one { keep := [0], wr := [0] } (stSk t (pos' t s : Nat) bad room) (.exit 0) ⟨mkTm 31 [], [rdI t (pos' t (skp s) : Nat) bad room], [0]⟩⟩
  | _ => none
set_option maxRecDepth 100000 in
theorem iskipT (t s : List UInt8) (bad : Bool) (room : Int) : fnT { P := Tryz.prog, vw := vwA, res := res0, ls := lsSk t s bad room } 0 fSkip [.ptr 0 0] [rdI t (pos' t s : Nat) bad room] =
 T.bind PUnit.unit fun _ =>
 T.need
 [St.mk (mkTm 31 [(0, V.ptr 0 0)]) [rdI t (↑(pos' t s) : Int) bad room] [0] =
 St.mk (mkTm 31 [(0, V.ptr 0 0)]) [rdI t (↑(pos' t s) : Int) bad room] [0],
 SoundC (Env.P (Env.mk Tryz.prog vwA res0 (lsSk t s bad room) [] [] none (MapE.mk (fun _ _ _ => none) fun _ _ _ _ => none) fun _ _ _ _ _ => none)) 1 (blk Tryz.prog fSkip 0)
 (St.mk (mkTm 31 [(0, V.ptr 0 0)]) [rdI t (↑(pos' t s) : Int) bad room] [0]) (Ex.exit 0)
 (St.mk (mkTm 31 []) [rdI t (↑(pos' t (skp s)) : Int) bad room] [0])]
 (T.done (Ret.mk (V.tup []) [rdI t (↑(pos' t (skp s)) : Int) bad room] [0])) := (T.force_eq _).symm.trans (by kernel_rfl)
theorem skip_ok {t s : List UInt8} (ht : t.length ≤ 4294967296) (h : s <:+ t) (bad : Bool) (room : Int) : FnOK Tryz.prog fSkip [.ptr 0 0] [rdI t (pos' t s : Nat) bad room] ⟨.tup [], [rdI t (pos' t (skp s) : Nat) bad room], [0]⟩ := by
  refine fnOK_TL (E := { P := Tryz.prog, vw := vwA, res := res0, ls := lsSk t s bad room }) follows named (iskipT t s bad room) (by simp) ?_
  simp only [T.WP, All, and_true]
  rintro - -
  exact ⟨⟨trivial, .loopTo (skip_loop ht bad room s h)⟩, ⟨rfl, rfl, by simp⟩⟩

def tkB (p s : List UInt8) (bad : Bool) : Bool := !bad && pfx p (skp s)
def tkS (p s : List UInt8) (bad : Bool) : List UInt8 := if tkB p s bad then (skp s).drop p.length else skp s
theorem tkS_suf {t s p : List UInt8} {bad : Bool} (h : s <:+ t) : tkS p s bad <:+ t := by
  unfold tkS; split
  · exact suf_drop _ (skp_suf h)
  · exact skp_suf h
noncomputable def resTk (t s : List UInt8) : ResT := fun f vs hp => match vs, hp with
  | [.ptr 0 0], [some ([.str _, .int _ _, .bool bad, .int _ room], _)] => bif Nat.beq f fSkip then some ⟨(), fun _ => ⟨.tup [], [rdI t (pos' t (skp s) : Nat) bad room], [0]⟩⟩ else none
  | [.str s, .str p], [] => bif Nat.beq f fPfx then some ⟨pfx p s, fun y => ⟨.bool y, [], []⟩⟩ else none
  | _, _ => none
set_option maxRecDepth 100000 in
theorem takeT (t s p : List UInt8) (bad : Bool) (room : Int) : fnT { P := Tryz.prog, vw := vwA, res := resTk t s } 0 fTake [.ptr 0 0, .str p] [rdI t (pos' t s : Nat) bad room] =
 T.bind PUnit.unit fun _ =>
 T.need
 [FnOK (Env.P (Env.mk Tryz.prog vwA (resTk t s) (fun _ _ => none) [] [] none (MapE.mk (fun _ _ _ => none) fun _ _ _ _ => none) fun _ _ _ _ _ => none)) 48 [V.ptr 0 0]
 [rdI t (↑(pos' t s) : Int) bad room] (Ret.mk (V.tup []) [rdI t (↑(pos' t (skp s)) : Int) bad room] [0])]
 (bif bad then T.done (Ret.mk (V.bool false) [rdI t (↑(pos' t (skp s)) : Int) bad room] [0])
 else
 T.need [(0 : Int) ≤ (↑(pos' t (skp s)) : Int) ∧ (↑(pos' t (skp s)) : Int) ≤ (↑(List.length t) : Int)]
 (T.bind (pfx p (List.drop (Int.toNat (↑(pos' t (skp s)) : Int)) (List.take (List.length t) t))) fun y1 =>
 T.need
 [FnOK (Env.P (Env.mk Tryz.prog vwA (resTk t s) (fun _ _ => none) [] [] none (MapE.mk (fun _ _ _ => none) fun _ _ _ _ => none) fun _ _ _ _ _ => none)) 95
 [V.str (List.drop (Int.toNat (↑(pos' t (skp s)) : Int)) (List.take (List.length t) t)), V.str p] [] (Ret.mk (V.bool y1) [] [])]
 (bif !y1 then T.done (Ret.mk (V.bool false) [rdI t (↑(pos' t (skp s)) : Int) bad room] [0])
 else T.done (Ret.mk (V.bool true) [rdI t (IntKind.wrap IntKind.i64 ((↑(pos' t (skp s)) : Int) + (↑(List.length p) : Int))) bad room] [0])))) := (T.force_eq _).symm.trans (by kernel_rfl)
theorem take_ok {t s : List UInt8} (p : List UInt8) (ht : t.length ≤ 4294967296) (h : s <:+ t) (bad : Bool) (room : Int) : FnOK Tryz.prog fTake [.ptr 0 0, .str p] [rdI t (pos' t s : Nat) bad room] ⟨.bool (tkB p s bad), [rdI t (pos' t (tkS p s bad) : Nat) bad room], [0]⟩ := by
  refine fnOK_TL (E := { P := Tryz.prog, vw := vwA, res := resTk t s }) follows named (takeT t s p bad room) (by simp) ?_
  simp only [WP_cond, T.WP, All, and_true]
  rintro - -
  have hsuf := skp_suf h
  have hp := pos_le hsuf
  refine ⟨skip_ok ht h bad room, fun hb => ?_, fun hb => ⟨by omega, ?_⟩⟩
  · have e : tkB p s bad = false := by unfold tkB; rw [hb]; rfl
    have e2 : tkS p s bad = skp s := by unfold tkS; rw [e]; rfl
    rw [e, e2]; exact ⟨rfl, rfl, by simp⟩
  · rw [Int.toNat_natCast, List.take_of_length_le (Nat.le_refl _), drop_pos hsuf]
    rintro y rfl
    refine ⟨ipfx_ok _ _, fun hy => ?_, fun hy => ?_⟩
    · have e : tkB p s bad = false := by unfold tkB; rw [show pfx p (skp s) = false by simpa using hy, Bool.and_false]
      have e2 : tkS p s bad = skp s := by unfold tkS; rw [e]; rfl
      rw [e, e2]; exact ⟨rfl, rfl, by simp⟩
    · have hy' : pfx p (skp s) = true := by simpa using hy
      have e : tkB p s bad = true := by unfold tkB; rw [hy', hb]; rfl
      have e2 : tkS p s bad = (skp s).drop p.length := by unfold tkS; rw [e]; rfl
      have hl := pfx_len hy'
      rw [e, e2, pos_drop hsuf hl, ← Int.natCast_add, wrap_nat (by omega)]; exact ⟨rfl, rfl, by simp⟩
noncomputable def resWt (t s : List UInt8) : ResT := fun f vs hp => match vs, hp with
  | [.ptr 0 0, .str p], [some ([.str _, .int _ _, .bool bad, .int _ room], _)] => bif Nat.beq f fTake then some ⟨(), fun _ => ⟨.bool (tkB p s bad), [rdI t (pos' t (tkS p s bad) : Nat) bad room], [0]⟩⟩ else none
  | _, _ => none
set_option maxRecDepth 100000 in
theorem wantT (t s p : List UInt8) (bad : Bool) (room : Int) : fnT { P := Tryz.prog, vw := vwA, res := resWt t s } 0 fWant [.ptr 0 0, .str p] [rdI t (pos' t s : Nat) bad room] =
 T.bind PUnit.unit fun _ =>
 T.need
 [FnOK (Env.P (Env.mk Tryz.prog vwA (resWt t s) (fun _ _ => none) [] [] none (MapE.mk (fun _ _ _ => none) fun _ _ _ _ => none) fun _ _ _ _ _ => none)) 73
 [V.ptr 0 0, V.str p] [rdI t (↑(pos' t s) : Int) bad room] (Ret.mk (V.bool (tkB p s bad)) [rdI t (↑(pos' t (tkS p s bad)) : Int) bad room] [0])]
 (bif !tkB p s bad then T.done (Ret.mk (V.tup []) [rdI t (↑(pos' t (tkS p s bad)) : Int) true room] [0]) else T.done (Ret.mk (V.tup []) [rdI t (↑(pos' t (tkS p s bad)) : Int) bad room] [0])) := (T.force_eq _).symm.trans (by kernel_rfl)
theorem want_ok {t s : List UInt8} (p : List UInt8) (ht : t.length ≤ 4294967296) (h : s <:+ t) (bad : Bool) (room : Int) : FnOK Tryz.prog fWant [.ptr 0 0, .str p] [rdI t (pos' t s : Nat) bad room] ⟨.tup [], [rdI t (pos' t (tkS p s bad) : Nat) (!tkB p s bad) room], [0]⟩ := by
  refine fnOK_TL (E := { P := Tryz.prog, vw := vwA, res := resWt t s }) follows named (wantT t s p bad room) (by simp) ?_
  simp only [WP_cond, T.WP, All, and_true]
  rintro - -
  refine ⟨take_ok p ht h bad room, fun hb => ?_, fun hb => ?_⟩
  · rw [hb]; exact ⟨rfl, rfl, by simp⟩
  · rw [hb]
    have : tkB p s bad = true := by simpa using hb
    have hb2 : bad = false := by
      cases bad
      · rfl
      · simp [tkB] at this
    rw [hb2]; exact ⟨rfl, rfl, by simp⟩
end Go.Proofs.YtfncaghjfgnnhaaGreatDoor

namespace Go.Proofs.YtfncaghjfgnnhaaGreatDoor
open Go.RowKit
set_option maxRecDepth 100000

abbrev fText : Nat := 74
abbrev fIdxB : Nat := 96
abbrev tU8 : Nat := 5
def escC (d : UInt8) : Bool := d == 34 || d == 92 || d == 47
def txtR : List UInt8 → List UInt8 → Option (List UInt8 × Bool × List UInt8)
  | [], _ => none
  | [c], W => if c = 34 then some (W, !plainT W, []) else if c = 92 then some ([], true, []) else none
  | c :: d :: s, W =>
    if c = 34 then some (W, !plainT W, d :: s)
    else if c = 92 then (if escC d then txtR s (W ++ [d]) else some ([], true, d :: s))
    else txtR (d :: s) (W ++ [c])
theorem txtR_q (s W : List UInt8) : txtR (34 :: s) W = some (W, !plainT W, s) := by cases s <;> simp [txtR]
theorem txtR_e1 (W : List UInt8) : txtR [92] W = some ([], true, []) := by simp [txtR]
theorem txtR_e2 (d : UInt8) (s W : List UInt8) : txtR (92 :: d :: s) W = if escC d then txtR s (W ++ [d]) else some ([], true, d :: s) := by simp [txtR]
theorem txtR_o {c : UInt8} (s W : List UInt8) (h1 : c ≠ 34) (h2 : c ≠ 92) : txtR (c :: s) W = txtR s (W ++ [c]) := by cases s <;> simp [txtR, h1, h2]

def idxB (p : List UInt8) (n : Int) : Int := Lib.indexByte p n.toNat.toUInt8
noncomputable def resTx : ResT := fun f vs hp => match vs, hp with
  | [.str p, .int _ n], [] => bif Nat.beq f fIdxB then some ⟨idxB p n, fun y => ⟨.int .i64 y, [], []⟩⟩ else none
  | [.str t], [] => bif Nat.beq f fIsPlain then some ⟨plainT t, fun y => ⟨.bool y, [], []⟩⟩ else none
  | _, _ => none
noncomputable def ETx : Env := { P := Tryz.prog, vw := vwA, res := resTx }
def stTx (t : List UInt8) (i : Int) (bad : Bool) (room : Int) (W : List UInt8) (b : Bool) : St := ⟨mkTm 109 [(0, .ptr 0 0), (2, .str []), (3, .sl 1 0 W.length b)], [rdI t i bad room, some ([.sld (encs encByte W)], tU8)], [0]⟩
def nfTx : Ex → Kp := fun ex => match ex with
  | .normal => { keep := [0, 2, 3], wr := [0] }
  | .ret => { keep := [2], wr := [0] }
  | .exit _ => { keep := [0], wr := [0] }
--FOLD rdI
set_option maxRecDepth 100000 in
theorem textL0 (t : List UInt8) (i : Int) (bad : Bool) (room : Int) (W : List UInt8) (b : Bool) : bodyT ETx 1 nfTx (lp Tryz.prog fText 0) (stTx t i bad room W b) =
 bif !bad then
 bif decide (i < (↑(List.length t) : Int)) then
 T.need [(0 : Int) ≤ i ∧ i < (↑(List.length t) : Int)]
 (bif (↑(UInt8.toNat (List.getD t (Int.toNat i) (0 : UInt8))) : Int) == (34 : Int) then
 bif bad then
 T.need [encs encByte W = byts (decL encByte (encs encByte W)), 0 = 0, List.length (decL encByte (encs encByte W) ++ []) = List.length W]
 (T.done (Ex.ret, St.mk (mkTm 109 [(2, V.str (decL encByte (encs encByte W) ++ []))]) [rdI t (IntKind.wrap IntKind.i64 (i + (1 : Int))) true room] [0]))
 else
 T.need [encs encByte W = byts (decL encByte (encs encByte W)), 0 = 0, List.length (decL encByte (encs encByte W) ++ []) = List.length W]
 (T.bind (plainT (decL encByte (encs encByte W) ++ [])) fun y0 =>
 T.need [FnOK (Env.P ETx) 89 [V.str (decL encByte (encs encByte W) ++ [])] [] (Ret.mk (V.bool y0) [] [])]
 (T.need [encs encByte W = byts (decL encByte (encs encByte W)), 0 = 0, List.length (decL encByte (encs encByte W) ++ []) = List.length W]
 (T.done (Ex.ret, St.mk (mkTm 109 [(2, V.str (decL encByte (encs encByte W) ++ []))]) [rdI t (IntKind.wrap IntKind.i64 (i + (1 : Int))) (!y0) room] [0]))))
 else
 bif (↑(UInt8.toNat (List.getD t (Int.toNat i) (0 : UInt8))) : Int) == (92 : Int) then
 bif IntKind.wrap IntKind.i64 (i + (1 : Int)) == (↑(List.length t) : Int) then
 T.done (Ex.ret, St.mk (mkTm 109 [(2, V.str [])]) [rdI t (IntKind.wrap IntKind.i64 (i + (1 : Int))) true room] [0])
 else
 T.need [(0 : Int) ≤ IntKind.wrap IntKind.i64 (i + (1 : Int)) ∧ IntKind.wrap IntKind.i64 (i + (1 : Int)) < (↑(List.length t) : Int)]
 (T.bind (idxB [(34 : UInt8), (92 : UInt8), (47 : UInt8)] (↑(UInt8.toNat (List.getD t (Int.toNat (IntKind.wrap IntKind.i64 (i + (1 : Int)))) (0 : UInt8))) : Int)) fun y1 =>
 T.need
 [FnOK (Env.P ETx) 96 [V.str [34, 92, 47], V.int IntKind.u8 (↑(UInt8.toNat (List.getD t (Int.toNat (IntKind.wrap IntKind.i64 (i + (1 : Int)))) (0 : UInt8))) : Int)]
 [] (Ret.mk (V.int IntKind.i64 y1) [] [])]
 (bif decide (y1 < (0 : Int)) then T.done (Ex.ret, St.mk (mkTm 109 [(2, V.str [])]) [rdI t (IntKind.wrap IntKind.i64 (i + (1 : Int))) true room] [0])
 else
 T.need [(0 : Int) ≤ IntKind.wrap IntKind.i64 (i + (1 : Int)) ∧ IntKind.wrap IntKind.i64 (i + (1 : Int)) < (↑(List.length t) : Int)]
 (T.need
 [0 = 0, List.length (encs encByte W) = List.length W * 1, List.length W + 1 ≤ 9223372036854775807,
 (List.length W + 1) * 1 ≤ 140737488355328]
 (T.done
 (Ex.normal,
 St.mk (mkTm 109 [(0, V.ptr 0 0), (2, V.str []), (3, V.sl 1 0 (List.length W + 1) false)])
 [rdI t (IntKind.wrap IntKind.i64 (IntKind.wrap IntKind.i64 (i + (1 : Int)) + (1 : Int))) bad room,
 some ([V.sld (encs encByte W ++ [V.int IntKind.u8 (↑(UInt8.toNat (List.getD t (Int.toNat (IntKind.wrap IntKind.i64 (i + (1 : Int)))) (0 : UInt8))) : Int)])], 5)]
 [0])))))
 else
 T.need
 [0 = 0, List.length (encs encByte W) = List.length W * 1, List.length W + 1 ≤ 9223372036854775807, (List.length W + 1) * 1 ≤ 140737488355328]
 (T.done
 (Ex.normal,
 St.mk (mkTm 109 [(0, V.ptr 0 0), (2, V.str []), (3, V.sl 1 0 (List.length W + 1) false)])
 [rdI t (IntKind.wrap IntKind.i64 (i + (1 : Int))) bad room, some ([V.sld (encs encByte W ++ [V.int IntKind.u8 (↑(UInt8.toNat (List.getD t (Int.toNat i) (0 : UInt8))) : Int)])], 5)]
 [0])))
 else T.done (Ex.exit 0, St.mk (mkTm 109 [(0, V.ptr 0 0)]) [rdI t i bad room] [0])
 else T.done (Ex.exit 0, St.mk (mkTm 109 [(0, V.ptr 0 0)]) [rdI t i bad room] [0]) := by kernel_rfl

theorem idx_esc (d : UInt8) : decide (idxB [34, 92, 47] ((d.toNat : Nat) : Int) < 0) = !escC d := by
  have e : ((d.toNat : Nat) : Int).toNat.toUInt8 = d := by rw [Int.toNat_natCast]; exact UInt8.ofNat_toNat
  unfold idxB
  rw [e]
  unfold escC
  by_cases h0 : d = 34
  · subst h0; rfl
  · by_cases h1 : d = 92
    · subst h1; rfl
    · by_cases h2 : d = 47
      · subst h2; rfl
      · have a0 : (34 == d) = false := beq_eq_false_iff_ne.2 (fun e => h0 e.symm)
        have a1 : (92 == d) = false := beq_eq_false_iff_ne.2 (fun e => h1 e.symm)
        have a2 : (47 == d) = false := beq_eq_false_iff_ne.2 (fun e => h2 e.symm)
        simp [Lib.indexByte, a0, a1, a2, h0, h1, h2]
theorem u8_eq (c : UInt8) (n : Nat) (hn : n < 256) : (((c.toNat : Nat) : Int) == (n : Int)) = (c == UInt8.ofNat n) := by
  rw [Bool.eq_iff_iff, beq_iff_eq, beq_iff_eq, ← UInt8.toNat_inj, UInt8.toNat_ofNat']
  omega
def IdxB : Prop := ∀ (p : List UInt8) (c : UInt8), FnOK Tryz.prog fIdxB [.str p, .int .u8 (c.toNat : Nat)] [] ⟨.int .i64 (idxB p (c.toNat : Nat)), [], []⟩
theorem text_loop (hI : IdxB) {t : List UInt8} (ht : t.length ≤ 1048576) (room : Int) : ∀ (n : Nat) (s : List UInt8) (W : List UInt8) (b : Bool), s.length ≤ n → s <:+ t → W.length + s.length ≤ t.length →
    match txtR s W with
    | none => LoopTo Tryz.prog 1 (lp Tryz.prog fText 0) (stTx t (pos' t s : Nat) false room W b) (.exit 0) ⟨mkTm 109 [(0, .ptr 0 0)], [rdI t (pos' t [] : Nat) false room], [0]⟩
    | some (r, bad, s') => LoopTo Tryz.prog 1 (lp Tryz.prog fText 0) (stTx t (pos' t s : Nat) false room W b) .ret ⟨mkTm 109 [(2, .str r)], [rdI t (pos' t s' : Nat) bad room], [0]⟩
  | n, [], W, b, _, h, hW => by
    rw [show txtR [] W = none from rfl]
    refine loopT (E := ETx) follows named (textL0 t (pos' t [] : Nat) false room W b) ?_
    rw [pos_nil]
    simp only [WP_cond, T.WP, All, decide_eq_true_eq, decide_eq_false_iff_not, and_true, beq_iff_eq, beq_eq_false_iff_ne, ne_eq]
    refine ⟨fun _ => ⟨fun h => by omega, fun _ => ⟨rfl, rfl⟩⟩, fun h => by simp at h⟩
  | n + 1, c :: s, W, b, hn, h, hW => by
    obtain ⟨h1, h2, h3⟩ := pos_cons h
    simp only [List.length_cons] at hn hW
    have hplain := isPlain_ok W (by omega)
    have hl := layByte.decL W
    have hb := byts_encs W
    have hlen := layByte.length W
    have c34 := u8_eq c 34 (by omega)
    have c92 := u8_eq c 92 (by omega)
    have w1 : IntKind.i64.wrap (((pos' t (c :: s) : Nat) : Int) + 1) = (pos' t s : Nat) := by rw [wrap_succ (by omega), h2]
    have tree := textL0 t (pos' t (c :: s) : Nat) false room W b
    simp only [Int.toNat_natCast, h1, hl, List.append_nil, w1] at tree
    by_cases e1 : c = 34
    · subst e1
      rw [txtR_q]
      refine loopT (E := ETx) follows named tree ?_
      simp only [WP_cond, T.WP, All, decide_eq_true_eq, decide_eq_false_iff_not, and_true, beq_iff_eq, beq_eq_false_iff_ne, ne_eq]
      refine ⟨fun _ => ⟨fun _ => ⟨by omega, fun _ => ⟨fun h => by simp at h, fun _ => ⟨hb.symm, ?_⟩⟩, fun h => absurd rfl h⟩, fun h => by omega⟩, fun h => by simp at h⟩
      rintro y rfl
      exact ⟨hplain, hb.symm, rfl, rfl⟩
    · have n34 : ¬ ((c.toNat : Nat) : Int) = 34 := fun e => e1 (by simpa [e] using c34)
      by_cases e2 : c = 92
      · subst e2
        cases s with
        | nil =>
          rw [txtR_e1]
          refine loopT (E := ETx) follows named tree ?_
          rw [pos_nil]
          simp only [WP_cond, T.WP, All, decide_eq_true_eq, decide_eq_false_iff_not, and_true, beq_iff_eq, beq_eq_false_iff_ne, ne_eq]
          exact ⟨fun _ => ⟨fun _ => ⟨by omega, fun h => absurd h n34, fun _ => ⟨fun _ => ⟨fun _ => ⟨rfl, rfl⟩, fun h => absurd trivial h⟩, fun h => absurd rfl h⟩⟩, fun h => by omega⟩, fun h => by simp at h⟩
        | cons d s =>
          obtain ⟨g1, g2, g3⟩ := pos_cons (suf_tail h)
          have w2 : IntKind.i64.wrap (((pos' t (d :: s) : Nat) : Int) + 1) = (pos' t s : Nat) := by rw [wrap_succ (by omega), g2]
          simp only [g1, w2] at tree
          simp only [List.length_cons] at hn hW
          have hx := idx_esc d
          rw [txtR_e2]
          have ih := text_loop hI ht room n s (W ++ [d]) false (by omega) (suf_tail (suf_tail h)) (by simp; omega)
          have main : ∀ Q : Ex × St → Prop, (escC d = true → Q (.normal, stTx t (pos' t s : Nat) false room (W ++ [d]) false)) → (escC d = false → Q (.ret, ⟨mkTm 109 [(2, .str [])], [rdI t (pos' t (d :: s) : Nat) true room], [0]⟩)) → (bodyT ETx 1 nfTx (lp Tryz.prog fText 0) (stTx t (pos' t (92 :: d :: s) : Nat) false room W b)).WP Q := by
            intro Q q1 q2
            rw [tree]
            simp only [WP_cond, T.WP, All, decide_eq_true_eq, decide_eq_false_iff_not, and_true, beq_iff_eq, beq_eq_false_iff_ne, ne_eq]
            refine ⟨fun _ => ⟨fun _ => ⟨by omega, fun h => absurd h n34, fun _ => ⟨fun _ => ⟨fun h => by omega, fun _ => ⟨by omega, ?_⟩⟩, fun h => absurd rfl h⟩⟩, fun h => by omega⟩, fun h => by simp at h⟩
            rintro y rfl
            refine ⟨hI _ d, fun hy => q2 ?_, fun hy => ⟨by omega, ⟨trivial, hlen, by omega, by omega⟩, ?_⟩⟩
            · rw [decide_eq_true hy] at hx; simpa using hx
            · have := q1 (by rw [decide_eq_false hy] at hx; simpa using hx)
              unfold stTx at this
              rw [encs_snoc, List.length_append] at this
              exact this
          by_cases he : escC d = true
          · rw [if_pos he]
            have := main (· = (.normal, stTx t (pos' t s : Nat) false room (W ++ [d]) false)) (fun _ => rfl) (fun h => by rw [he] at h; cases h)
            cases hr : txtR s (W ++ [d]) with
            | none => rw [hr] at ih; exact .step (soundT follows named rfl this) ih
            | some r => rw [hr] at ih; exact .step (soundT follows named rfl this) ih
          · rw [if_neg he]
            have := main (· = (.ret, ⟨mkTm 109 [(2, .str [])], [rdI t (pos' t (d :: s) : Nat) true room], [0]⟩)) (fun h => absurd h he) (fun _ => rfl)
            exact .done (soundT follows named rfl this) (by simp)
      · have n92 : ¬ ((c.toNat : Nat) : Int) = 92 := fun e => e2 (by simpa [e] using c92)
        rw [txtR_o s W e1 e2]
        have ih := text_loop hI ht room n s (W ++ [c]) false (by omega) (suf_tail h) (by simp; omega)
        have main : (bodyT ETx 1 nfTx (lp Tryz.prog fText 0) (stTx t (pos' t (c :: s) : Nat) false room W b)).WP (· = (.normal, stTx t (pos' t s : Nat) false room (W ++ [c]) false)) := by
          rw [tree]
          simp only [WP_cond, T.WP, All, decide_eq_true_eq, decide_eq_false_iff_not, and_true, beq_iff_eq, beq_eq_false_iff_ne, ne_eq]
          refine ⟨fun _ => ⟨fun _ => ⟨by omega, fun h => absurd h n34, fun _ => ⟨fun h => absurd h n92, fun _ => ⟨⟨trivial, hlen, by omega, by omega⟩, ?_⟩⟩⟩, fun h => by omega⟩, fun h => by simp at h⟩
          unfold stTx
          rw [encs_snoc, List.length_append]
          rfl
        cases hr : txtR s (W ++ [c]) with
        | none => rw [hr] at ih; exact .step (soundT follows named rfl main) ih
        | some r => rw [hr] at ih; exact .step (soundT follows named rfl main) ih

def txtE (bad : Bool) (s : List UInt8) : List UInt8 × Bool × List UInt8 := bif bad then ([], true, s) else (txtR s []).getD ([], true, [])
def txtN (bad : Bool) (s : List UInt8) : Bool := bad || (txtR s []).isNone
noncomputable def lsTx (t s : List UInt8) (bad : Bool) (room : Int) : Nat → St → Option LRes := fun id _ => match id with
  | 0 => some ⟨(), fun _ => .two { keep := [0, 2, 3], wr := [0] } (stTx t (pos' t s : Nat) bad room [] true) (txtN bad s) (.exit 0) ⟨mkTm 109 [(0, .ptr 0 0)], [rdI t (pos' t (txtE bad s).2.2 : Nat) bad room], [0]⟩ .ret ⟨mkTm 109 [(2, .str (txtE bad s).1)], [rdI t (pos' t (txtE bad s).2.2 : Nat) (txtE bad s).2.1 room], [0]⟩⟩
  | _ => none
set_option maxRecDepth 100000 in
theorem textT (t s : List UInt8) (bad : Bool) (room : Int) : fnT { P := Tryz.prog, vw := vwA, res := res0, ls := lsTx t s bad room } 0 fText [.ptr 0 0] [rdI t (pos' t s : Nat) bad room] =
 T.bind PUnit.unit fun _ =>
 T.need
 [St.mk (mkTm 109 [(0, V.ptr 0 0), (2, V.str []), (3, V.sl 1 0 0 true)]) [rdI t (↑(pos' t s) : Int) bad room, some ([V.sld []], 5)]
 [0] =
 St.mk (mkTm 109 [(0, V.ptr 0 0), (2, V.str []), (3, V.sl 1 0 0 true)]) [rdI t (↑(pos' t s) : Int) bad room, some ([V.sld []], 5)]
 [0]]
 (bif txtN bad s then
 T.need
 [SoundC (Env.P (Env.mk Tryz.prog vwA res0 (lsTx t s bad room) [] [] none (MapE.mk (fun _ _ _ => none) fun _ _ _ _ => none) fun _ _ _ _ _ => none)) 1 (blk Tryz.prog fText 0)
 (St.mk (mkTm 109 [(0, V.ptr 0 0), (2, V.str []), (3, V.sl 1 0 0 true)])
 [rdI t (↑(pos' t s) : Int) bad room, some ([V.sld []], 5)] [0])
 (Ex.exit 0) (St.mk (mkTm 109 [(0, V.ptr 0 0)]) [rdI t (↑(pos' t (Prod.snd (Prod.snd (txtE bad s)))) : Int) bad room] [0])]
 (T.done (Ret.mk (V.str []) [rdI t (↑(pos' t (Prod.snd (Prod.snd (txtE bad s)))) : Int) true room] [0]))
 else
 T.need
 [SoundC (Env.P (Env.mk Tryz.prog vwA res0 (lsTx t s bad room) [] [] none (MapE.mk (fun _ _ _ => none) fun _ _ _ _ => none) fun _ _ _ _ _ => none)) 1 (blk Tryz.prog fText 0)
 (St.mk (mkTm 109 [(0, V.ptr 0 0), (2, V.str []), (3, V.sl 1 0 0 true)])
 [rdI t (↑(pos' t s) : Int) bad room, some ([V.sld []], 5)] [0])
 Ex.ret (St.mk (mkTm 109 [(2, V.str (Prod.fst (txtE bad s)))]) [rdI t (↑(pos' t (Prod.snd (Prod.snd (txtE bad s)))) : Int) (Prod.fst (Prod.snd (txtE bad s))) room] [0])]
 (T.done (Ret.mk (V.str (Prod.fst (txtE bad s))) [rdI t (↑(pos' t (Prod.snd (Prod.snd (txtE bad s)))) : Int) (Prod.fst (Prod.snd (txtE bad s))) room] [0]))) := (T.force_eq _).symm.trans (by kernel_rfl)
theorem text_ok (hI : IdxB) {t s : List UInt8} (ht : t.length ≤ 1048576) (h : s <:+ t) (bad : Bool) (room : Int) : FnOK Tryz.prog fText [.ptr 0 0] [rdI t (pos' t s : Nat) bad room] ⟨.str (txtE bad s).1, [rdI t (pos' t (txtE bad s).2.2 : Nat) (txtE bad s).2.1 room], [0]⟩ := by
  refine fnOK_TL (E := { P := Tryz.prog, vw := vwA, res := res0, ls := lsTx t s bad room }) follows named (textT t s bad room) (by simp) ?_
  simp only [WP_cond, T.WP, All, and_true]
  have hl := text_loop hI ht room s.length s [] true (Nat.le_refl _) h (by have := h.length_le; simpa using this)
  rintro - -
  refine ⟨trivial, ?_⟩
  cases bad with
  | true =>
    have hd : LoopTo Tryz.prog 1 (lp Tryz.prog fText 0) (stTx t (pos' t s : Nat) true room [] true) (.exit 0) ⟨mkTm 109 [(0, .ptr 0 0)], [rdI t (pos' t s : Nat) true room], [0]⟩ := by
      refine loopT (E := ETx) follows named (textL0 t (pos' t s : Nat) true room [] true) ?_
      simp only [WP_cond, T.WP, All, decide_eq_true_eq, decide_eq_false_iff_not, and_true, beq_iff_eq, beq_eq_false_iff_ne, ne_eq]
      exact ⟨fun h => by simp at h, fun _ => ⟨rfl, rfl⟩⟩
    exact ⟨fun _ => ⟨.loopTo hd, ⟨rfl, rfl, by simp⟩⟩, fun h => by simp [txtN] at h⟩
  | false =>
    cases hr : txtR s [] with
    | none =>
      rw [hr] at hl
      have e : txtE false s = ([], true, []) := by simp [txtE, hr]
      rw [e]
      exact ⟨fun _ => ⟨.loopTo hl, ⟨rfl, rfl, by simp⟩⟩, fun h => by simp [txtN, hr] at h⟩
    | some r =>
      rw [hr] at hl
      have e : txtE false s = r := by simp [txtE, hr]
      rw [e]
      exact ⟨fun h => by simp [txtN, hr] at h, fun _ => ⟨.loopTo hl, ⟨rfl, rfl, by simp⟩⟩⟩
theorem txtR_suf : ∀ (n : Nat) (s W : List UInt8) (r : List UInt8 × Bool × List UInt8), s.length ≤ n → txtR s W = some r → r.2.2 <:+ s
  | _, [], W, r, _, h => by cases h
  | n + 1, c :: s, W, r, hn, h => by
    simp only [List.length_cons] at hn
    by_cases e1 : c = 34
    · subst e1; rw [txtR_q] at h; cases h; exact List.suffix_cons _ _
    · by_cases e2 : c = 92
      · subst e2
        cases s with
        | nil => rw [txtR_e1] at h; cases h; exact List.nil_suffix
        | cons d s =>
          rw [txtR_e2] at h
          split at h
          · exact (txtR_suf n s _ r (by simp only [List.length_cons] at hn; omega) h).trans ((List.suffix_cons _ _).trans (List.suffix_cons _ _))
          · cases h; exact List.suffix_cons _ _
      · rw [txtR_o s W e1 e2] at h
        exact (txtR_suf n s _ r (by omega) h).trans (List.suffix_cons _ _)
theorem txtE_suf (bad : Bool) (s : List UInt8) : (txtE bad s).2.2 <:+ s := by
  unfold txtE
  cases bad with
  | true => exact List.suffix_refl _
  | false =>
    cases hr : txtR s [] with
    | none => exact List.nil_suffix
    | some r => exact txtR_suf _ s [] r (Nat.le_refl _) hr
end Go.Proofs.YtfncaghjfgnnhaaGreatDoor

namespace Go.Proofs.YtfncaghjfgnnhaaGreatDoor
open Go.RowKit
set_option maxRecDepth 100000

abbrev fAtoi : Nat := 111
abbrev fItoaN : Nat := 54
abbrev fTrimP : Nat := 112
abbrev fTrimP1 : Nat := 136
abbrev fReadN : Nat := 101
abbrev fNumber : Nat := 78
abbrev tNumErr : Nat := 169

def atoiV (t : List UInt8) : Int × Bool := match Lib.atoiAll t with
  | .ok v => (v, true)
  | .range => (Lib.atoiSat t, false)
  | _ => (0, false)
def atoiRet (t : List UInt8) (ok : Bool) : Ret := bif ok then ⟨.tup [.int .i64 (atoiV t).1, .lit .nilIface], [], []⟩ else ⟨.tup [.int .i64 (atoiV t).1, .box (.iface tNumErr) [.dptr []]], [], []⟩
def AtoiOK : Prop := ∀ t : List UInt8, t.length ≤ 1048576 → FnOK Tryz.prog fAtoi [.str t] [] (atoiRet t (atoiV t).2)

noncomputable def resPx1 : ResT := fun f vs hp => match vs, hp with
  | [.str s, .str p], [] => bif Nat.beq f fPfx1 then some ⟨pfx p s, fun y => ⟨.bool y, [], []⟩⟩ else none
  | _, _ => none
set_option maxRecDepth 100000 in
theorem itrim1T (s p : List UInt8) : fnT { P := Tryz.prog, vw := vwA, res := resPx1 } 0 fTrimP1 [.str s, .str p] [] =
 T.bind (pfx p s) fun y0 =>
 T.need
 [FnOK (Env.P (Env.mk Tryz.prog vwA resPx1 (fun _ _ => none) [] [] none (MapE.mk (fun _ _ _ => none) fun _ _ _ _ => none) fun _ _ _ _ _ => none)) 107 [V.str s, V.str p] []
 (Ret.mk (V.bool y0) [] [])]
 (bif y0 then
 T.need [(0 : Int) ≤ (↑(List.length p) : Int) ∧ (↑(List.length p) : Int) ≤ (↑(List.length s) : Int)] (T.done (Ret.mk (V.str (List.drop (Int.toNat (↑(List.length p) : Int)) (List.take (List.length s) s))) [] []))
 else T.done (Ret.mk (V.str s) [] [])) := (T.force_eq _).symm.trans (by kernel_rfl)
def trimP (p s : List UInt8) : List UInt8 := if pfx p s then s.drop p.length else s
theorem itrim1_ok (s p : List UInt8) : FnOK Tryz.prog fTrimP1 [.str s, .str p] [] ⟨.str (trimP p s), [], []⟩ := by
  refine fnOK_TL (E := { P := Tryz.prog, vw := vwA, res := resPx1 }) follows named (itrim1T s p) (by simp) ?_
  simp only [WP_cond, T.WP, All, and_true]
  rintro y rfl
  unfold trimP
  refine ⟨ipfx1_ok s p, fun h => ⟨?_, ?_⟩, fun h => ?_⟩
  · have := pfx_len h; omega
  · rw [if_pos h, Int.toNat_natCast, List.take_of_length_le (by simp)]; exact ⟨rfl, rfl, by simp⟩
  · rw [if_neg (by rw [h]; simp)]; exact ⟨rfl, rfl, by simp⟩
noncomputable def resTr : ResT := fun f vs hp => match vs, hp with
  | [.str s, .str p], [] => bif Nat.beq f fTrimP1 then some ⟨trimP p s, fun y => ⟨.str y, [], []⟩⟩ else none
  | _, _ => none
set_option maxRecDepth 100000 in
theorem itrimT (s p : List UInt8) : fnT { P := Tryz.prog, vw := vwA, res := resTr } 0 fTrimP [.str s, .str p] [] =
 T.bind (trimP p s) fun y0 =>
 T.need
 [FnOK (Env.P (Env.mk Tryz.prog vwA resTr (fun _ _ => none) [] [] none (MapE.mk (fun _ _ _ => none) fun _ _ _ _ => none) fun _ _ _ _ _ => none)) 136 [V.str s, V.str p] []
 (Ret.mk (V.str y0) [] [])]
 (T.done (Ret.mk (V.str y0) [] [])) := (T.force_eq _).symm.trans (by kernel_rfl)
theorem itrim_ok (s p : List UInt8) : FnOK Tryz.prog fTrimP [.str s, .str p] [] ⟨.str (trimP p s), [], []⟩ := by
  refine fnOK_TL (E := { P := Tryz.prog, vw := vwA, res := resTr }) follows named (itrimT s p) (by simp) ?_
  simp only [T.WP, All, and_true]
  rintro y rfl
  exact ⟨itrim1_ok s p, ⟨rfl, rfl, by simp⟩⟩

noncomputable def resRn : ResT := fun f vs hp => match vs, hp with
  | [.str s, .str p], [] => bif Nat.beq f fTrimP then some ⟨trimP p s, fun y => ⟨.str y, [], []⟩⟩ else none
  | [.int _ n], [] => bif Nat.beq f fItoaN then some ⟨Lib.itoa n, fun y => ⟨.str y, [], []⟩⟩ else none
  | _, _ => none
noncomputable def spRn (a : Int × Bool) : Nat → Nat → FuncId → List V → Hp → Option (Bool × Ret × Ret) := fun _ _ f vs hp => match vs, hp with
  | [.str _], [] => bif Nat.beq f fAtoi then some (a.2, ⟨.tup [.int .i64 a.1, .lit .nilIface], [], []⟩, ⟨.tup [.int .i64 a.1, .box (.iface tNumErr) [.dptr []]], [], []⟩) else none
  | _, _ => none
set_option maxRecDepth 100000 in
theorem readNT (a : Int × Bool) (s : List UInt8) : fnT { P := Tryz.prog, vw := vwA, res := resRn, sp := spRn a } 0 fReadN [.str s] [] =
 bif Prod.snd a then
 T.need
 [FnOK (Env.P (Env.mk Tryz.prog vwA resRn (fun _ _ => none) [] [] none (MapE.mk (fun _ _ _ => none) fun _ _ _ _ => none) (spRn a))) 111 [V.str s] []
 (Ret.mk (V.tup [V.int IntKind.i64 (Prod.fst a), V.lit Value.nilIface]) [] [])]
 (T.bind (Lib.itoa (Prod.fst a)) fun y0 =>
 T.need
 [FnOK (Env.P (Env.mk Tryz.prog vwA resRn (fun _ _ => none) [] [] none (MapE.mk (fun _ _ _ => none) fun _ _ _ _ => none) (spRn a))) 54 [V.int IntKind.i64 (Prod.fst a)] []
 (Ret.mk (V.str y0) [] [])]
 (bif !y0 == s then T.done (Ret.mk (V.tup [V.int IntKind.i64 (0 : Int), V.bool false]) [] [])
 else
 T.bind (trimP [(45 : UInt8)] s) fun y1 =>
 T.need
 [FnOK (Env.P (Env.mk Tryz.prog vwA resRn (fun _ _ => none) [] [] none (MapE.mk (fun _ _ _ => none) fun _ _ _ _ => none) (spRn a))) 112 [V.str s, V.str [45]] []
 (Ret.mk (V.str y1) [] [])]
 (bif decide ((↑(List.length y1) : Int) > (18 : Int)) then T.done (Ret.mk (V.tup [V.int IntKind.i64 (0 : Int), V.bool false]) [] [])
 else T.done (Ret.mk (V.tup [V.int IntKind.i64 (Prod.fst a), V.bool true]) [] []))))
 else
 T.need
 [FnOK (Env.P (Env.mk Tryz.prog vwA resRn (fun _ _ => none) [] [] none (MapE.mk (fun _ _ _ => none) fun _ _ _ _ => none) (spRn a))) 111 [V.str s] []
 (Ret.mk (V.tup [V.int IntKind.i64 (Prod.fst a), V.box (BK.iface 169) [V.dptr []]]) [] [])]
 (T.done (Ret.mk (V.tup [V.int IntKind.i64 (0 : Int), V.bool false]) [] [])) := by kernel_rfl
def rdN (s : List UInt8) : Int × Bool := bif (atoiV s).2 && (Lib.itoa (atoiV s).1 == s) && decide ((trimP [45] s).length ≤ 18) then ((atoiV s).1, true) else (0, false)
theorem readN_ok (hA : AtoiOK) (s : List UInt8) (hs : s.length ≤ 1048576) : FnOK Tryz.prog fReadN [.str s] [] ⟨.tup [.int .i64 (rdN s).1, .bool (rdN s).2], [], []⟩ := by
  refine fnOK_TL (E := { P := Tryz.prog, vw := vwA, res := resRn, sp := spRn (atoiV s) }) follows named (readNT (atoiV s) s) (by simp) ?_
  have h := hA s hs
  have hb : -9223372036854775808 ≤ (atoiV s).1 ∧ (atoiV s).1 ≤ 9223372036854775807 ∨ (atoiV s).2 = false := by
    unfold atoiV
    cases ha : Lib.atoiAll s with
    | ok v => exact .inl (Lib.atoiAll_bounds ha)
    | _ => exact .inr rfl
  simp only [WP_cond, T.WP, All, decide_eq_true_eq, decide_eq_false_iff_not, and_true]
  refine ⟨fun h1 => ?_, fun h1 => ?_⟩
  · rw [h1] at h
    refine ⟨h, ?_⟩
    rintro y rfl
    have hb' := hb.resolve_right (by rw [h1]; simp)
    refine ⟨itoa_ok _ hb', fun hy => ?_, fun hy => ?_⟩
    · have e : rdN s = (0, false) := by
        unfold rdN
        rw [show (Lib.itoa (atoiV s).1 == s) = false by simpa using hy]; simp
      rw [e]; exact ⟨rfl, rfl, by simp⟩
    · rintro y rfl
      have hy' : (Lib.itoa (atoiV s).1 == s) = true := by simpa using hy
      refine ⟨itrim_ok _ _, fun hz => ?_, fun hz => ?_⟩
      · have e : rdN s = (0, false) := by
          unfold rdN
          rw [decide_eq_false (by omega)]; simp
        rw [e]; exact ⟨rfl, rfl, by simp⟩
      · have e : rdN s = ((atoiV s).1, true) := by
          unfold rdN
          rw [decide_eq_true (by omega), hy', h1]; rfl
        rw [e]; exact ⟨rfl, rfl, by simp⟩
  · rw [h1] at h
    have e : rdN s = (0, false) := by unfold rdN; rw [h1]; rfl
    rw [e]
    exact ⟨h, ⟨rfl, rfl, by simp⟩⟩

def nmC (c : UInt8) : Bool := c == 45 || dgtI (c.toNat : Nat)
def stNm (t : List UInt8) (i : Int) (bad : Bool) (room : Int) (from' : Int) : St := ⟨mkTm 83 [(0, .ptr 0 0), (2, .ptr 1 0), (3, .int .i64 from')], [rdI t i bad room, zJ], [0]⟩
def nfNm : Ex → Kp := fun ex => match ex with
  | _ => { keep := [0, 2, 3], wr := [0] }
--FOLD rdI zJ
set_option maxRecDepth 100000 in
theorem numL0 (t : List UInt8) (i : Int) (bad : Bool) (room : Int) (fr : Int) : bodyT ESk 1 nfNm (lp Tryz.prog fNumber 0) (stNm t i bad room fr) =
 bif decide (i < (↑(List.length t) : Int)) then
 T.need [(0 : Int) ≤ i ∧ i < (↑(List.length t) : Int)]
 (bif (↑(UInt8.toNat (List.getD t (Int.toNat i) (0 : UInt8))) : Int) == (45 : Int) then
 T.done
 (Ex.normal,
 St.mk (mkTm 83 [(0, V.ptr 0 0), (2, V.ptr 1 0), (3, V.int IntKind.i64 fr)]) [rdI t (IntKind.wrap IntKind.i64 (i + (1 : Int))) bad room, zJ]
 [0])
 else
 T.need [(0 : Int) ≤ i ∧ i < (↑(List.length t) : Int)]
 (T.bind (dgtI (↑(UInt8.toNat (List.getD t (Int.toNat i) (0 : UInt8))) : Int)) fun y0 =>
 T.need [FnOK (Env.P ESk) 100 [V.int IntKind.u8 (↑(UInt8.toNat (List.getD t (Int.toNat i) (0 : UInt8))) : Int)] [] (Ret.mk (V.bool y0) [] [])]
 (bif y0 then
 T.done
 (Ex.normal,
 St.mk (mkTm 83 [(0, V.ptr 0 0), (2, V.ptr 1 0), (3, V.int IntKind.i64 fr)])
 [rdI t (IntKind.wrap IntKind.i64 (i + (1 : Int))) bad room, zJ] [0])
 else
 T.done (Ex.exit 0, St.mk (mkTm 83 [(0, V.ptr 0 0), (2, V.ptr 1 0), (3, V.int IntKind.i64 fr)]) [rdI t i bad room, zJ] [0]))))
 else T.done (Ex.exit 0, St.mk (mkTm 83 [(0, V.ptr 0 0), (2, V.ptr 1 0), (3, V.int IntKind.i64 fr)]) [rdI t i bad room, zJ] [0]) := by kernel_rfl
theorem num_loop {t : List UInt8} (ht : t.length ≤ 1048576) (bad : Bool) (room fr : Int) : ∀ s : List UInt8, s <:+ t →
    LoopTo Tryz.prog 1 (lp Tryz.prog fNumber 0) (stNm t (pos' t s : Nat) bad room fr) (.exit 0) (stNm t (pos' t (s.dropWhile nmC) : Nat) bad room fr)
  | [], h => by
    refine loopT (E := ESk) follows named (numL0 t (pos' t [] : Nat) bad room fr) ?_
    rw [pos_nil]
    simp only [WP_cond, T.WP, All, decide_eq_true_eq, decide_eq_false_iff_not, and_true, beq_iff_eq, beq_eq_false_iff_ne, ne_eq]
    refine ⟨fun h => by omega, fun _ => ⟨rfl, ?_⟩⟩
    rw [show ([] : List UInt8).dropWhile nmC = [] from rfl, pos_nil]
    rfl
  | c :: s, h => by
    obtain ⟨h1, h2, h3⟩ := pos_cons h
    have ih := num_loop ht bad room fr s (suf_tail h)
    have c45 := u8_eq c 45 (by omega)
    have w1 : IntKind.i64.wrap (((pos' t (c :: s) : Nat) : Int) + 1) = (pos' t s : Nat) := by rw [wrap_succ (by omega), h2]
    have tree := numL0 t (pos' t (c :: s) : Nat) bad room fr
    simp only [Int.toNat_natCast, h1, w1] at tree
    refine loopT (E := ESk) follows named tree ?_
    have stop : nmC c = false → (c :: s).dropWhile nmC = c :: s := fun h => by rw [List.dropWhile_cons_of_neg (by rw [h]; simp)]
    have on : nmC c = true → (c :: s).dropWhile nmC = s.dropWhile nmC := fun h => by rw [List.dropWhile_cons_of_pos h]
    simp only [WP_cond, T.WP, All, decide_eq_true_eq, decide_eq_false_iff_not, and_true, beq_iff_eq, beq_eq_false_iff_ne, ne_eq]
    refine ⟨fun _ => ⟨by omega, fun e => ?_, fun e => ⟨by omega, ?_⟩⟩, fun h => by omega⟩
    · have : nmC c = true := by
        unfold nmC
        rw [← show (((c.toNat : Nat) : Int) == ((45 : Nat) : Int)) = (c == 45) from c45, show (((c.toNat : Nat) : Int) == ((45 : Nat) : Int)) = true from beq_iff_eq.2 (by omega)]; rfl
      rw [on this]; exact ih
    · rintro y rfl
      have e45 : (c == 45) = false := by
        rw [← show (((c.toNat : Nat) : Int) == ((45 : Nat) : Int)) = (c == 45) from c45]
        exact beq_eq_false_iff_ne.2 (by omega)
      refine ⟨idigit_ok _, fun hy => ?_, fun hy => ⟨rfl, ?_⟩⟩
      · rw [on (by unfold nmC; rw [hy, Bool.or_true])]; exact ih
      · rw [stop (by unfold nmC; rw [hy, e45]; rfl)]; rfl
theorem tok_at {t s : List UInt8} (h : s <:+ t) (p : UInt8 → Bool) : (t.take (pos' t (s.dropWhile p))).drop (pos' t s) = s.takeWhile p ∧ pos' t s ≤ pos' t (s.dropWhile p) ∧ pos' t (s.dropWhile p) ≤ t.length := by
  have h2 : s.dropWhile p <:+ t := (List.dropWhile_suffix _).trans h
  have e := List.takeWhile_append_dropWhile (p := p) (l := s)
  have l1 := pos_le h
  have l2 := pos_le h2
  have l3 := congrArg List.length e
  rw [List.length_append] at l3
  refine ⟨?_, by omega, by omega⟩
  rw [List.drop_take, drop_pos h, show pos' t (s.dropWhile p) - pos' t s = (s.takeWhile p).length by omega]
  have key : ∀ a b : List UInt8, (a ++ b).take a.length = a := fun a b => List.take_left ..
  have := key (s.takeWhile p) (s.dropWhile p)
  rw [e] at this
  exact this
noncomputable def resNm (a : Int × Bool) : ResT := fun f vs hp => match vs, hp with
  | [.str _], [] => bif Nat.beq f fReadN then some ⟨a, fun y => ⟨.tup [.int .i64 y.1, .bool y.2], [], []⟩⟩ else none
  | [.int _ n], [] => bif Nat.beq f fIsNumber then some ⟨inB n (-1000000000) 1000000000, fun y => ⟨.bool y, [], []⟩⟩ else none
  | _, _ => none
noncomputable def lsNm (t s : List UInt8) (bad : Bool) (room : Int) : Nat → St → Option LRes := fun id _ => match id with
  | 0 => some ⟨(), fun _ => .one { keep := [0, 2, 3], wr := [0] } (stNm t (pos' t s : Nat) bad room (pos' t s : Nat)) (.exit 0) (stNm t (pos' t (s.dropWhile nmC) : Nat) bad room (pos' t s : Nat))⟩
  | _ => none
set_option maxRecDepth 100000 in
theorem numberT (a : Int × Bool) (t s : List UInt8) (bad : Bool) (room : Int) : fnT { P := Tryz.prog, vw := vwA, res := resNm a, ls := lsNm t s bad room } 0 fNumber [.ptr 0 0] [rdI t (pos' t s : Nat) bad room] =
 T.bind PUnit.unit fun _ =>
 T.need
 [St.mk (mkTm 83 [(0, V.ptr 0 0), (2, V.ptr 1 0), (3, V.int IntKind.i64 (↑(pos' t s) : Int))]) [rdI t (↑(pos' t s) : Int) bad room, zJ] [0] =
 St.mk (mkTm 83 [(0, V.ptr 0 0), (2, V.ptr 1 0), (3, V.int IntKind.i64 (↑(pos' t s) : Int))]) [rdI t (↑(pos' t s) : Int) bad room, zJ] [0],
 SoundC (Env.P (Env.mk Tryz.prog vwA (resNm a) (lsNm t s bad room) [] [] none (MapE.mk (fun _ _ _ => none) fun _ _ _ _ => none) fun _ _ _ _ _ => none)) 1 (blk Tryz.prog fNumber 0)
 (St.mk (mkTm 83 [(0, V.ptr 0 0), (2, V.ptr 1 0), (3, V.int IntKind.i64 (↑(pos' t s) : Int))]) [rdI t (↑(pos' t s) : Int) bad room, zJ] [0])
 (Ex.exit 0)
 (St.mk (mkTm 83 [(0, V.ptr 0 0), (2, V.ptr 1 0), (3, V.int IntKind.i64 (↑(pos' t s) : Int))])
 [rdI t (↑(pos' t (List.dropWhile nmC s)) : Int) bad room, zJ] [0])]
 (T.need
 [(0 : Int) ≤ (↑(pos' t (List.dropWhile nmC s)) : Int) ∧ (↑(pos' t (List.dropWhile nmC s)) : Int) ≤ (↑(List.length t) : Int),
 (0 : Int) ≤ (↑(pos' t s) : Int) ∧ (↑(pos' t s) : Int) ≤ (↑(Int.toNat (↑(pos' t (List.dropWhile nmC s)) : Int)) : Int)]
 (T.bind a fun y1 =>
 T.need
 [FnOK (Env.P (Env.mk Tryz.prog vwA (resNm a) (lsNm t s bad room) [] [] none (MapE.mk (fun _ _ _ => none) fun _ _ _ _ => none) fun _ _ _ _ _ => none)) 101
 [V.str (List.drop (Int.toNat (↑(pos' t s) : Int)) (List.take (Int.toNat (↑(pos' t (List.dropWhile nmC s)) : Int)) t))] [] (Ret.mk (V.tup [V.int IntKind.i64 (Prod.fst y1), V.bool (Prod.snd y1)]) [] [])]
 (bif bad then
 T.done
 (Ret.mk (V.agg [V.int IntKind.i64 (2 : Int), V.int IntKind.i64 (Prod.fst y1), V.str [], V.dsl 0 false [], V.dsl 0 false []]) [rdI t (↑(pos' t (List.dropWhile nmC s)) : Int) true room]
 [0])
 else
 bif !Prod.snd y1 then
 T.done
 (Ret.mk (V.agg [V.int IntKind.i64 (2 : Int), V.int IntKind.i64 (Prod.fst y1), V.str [], V.dsl 0 false [], V.dsl 0 false []]) [rdI t (↑(pos' t (List.dropWhile nmC s)) : Int) true room]
 [0])
 else
 T.bind (inB (Prod.fst y1) (-1000000000 : Int) (1000000000 : Int)) fun y2 =>
 T.need
 [FnOK (Env.P (Env.mk Tryz.prog vwA (resNm a) (lsNm t s bad room) [] [] none (MapE.mk (fun _ _ _ => none) fun _ _ _ _ => none) fun _ _ _ _ _ => none)) 88
 [V.int IntKind.i64 (Prod.fst y1)] [] (Ret.mk (V.bool y2) [] [])]
 (T.done
 (Ret.mk (V.agg [V.int IntKind.i64 (2 : Int), V.int IntKind.i64 (Prod.fst y1), V.str [], V.dsl 0 false [], V.dsl 0 false []]) [rdI t (↑(pos' t (List.dropWhile nmC s)) : Int) (!y2) room]
 [0]))))) := (T.force_eq _).symm.trans (by kernel_rfl)
def nmJ (s : List UInt8) : J := .mk 2 (rdN (s.takeWhile nmC)).1 [] [] []
def nmB (bad : Bool) (s : List UInt8) : Bool := bad || !(rdN (s.takeWhile nmC)).2 || !inB (rdN (s.takeWhile nmC)).1 (-1000000000) 1000000000
theorem number_ok (hA : AtoiOK) {t s : List UInt8} (ht : t.length ≤ 1048576) (h : s <:+ t) (bad : Bool) (room : Int) : FnOK Tryz.prog fNumber [.ptr 0 0] [rdI t (pos' t s : Nat) bad room] ⟨.agg (vwJ (nmJ s)), [rdI t (pos' t (s.dropWhile nmC) : Nat) (nmB bad s) room], [0]⟩ := by
  refine fnOK_TL (E := { P := Tryz.prog, vw := vwA, res := resNm (rdN (s.takeWhile nmC)), ls := lsNm t s bad room }) follows named (numberT (rdN (s.takeWhile nmC)) t s bad room) (by simp) ?_
  simp only [WP_cond, T.WP, All, and_true, Int.toNat_natCast]
  obtain ⟨e1, e2, e3⟩ := tok_at h nmC
  rw [e1]
  rintro - -
  refine ⟨⟨trivial, .loopTo (num_loop ht bad room _ s h)⟩, ⟨by omega, by omega⟩, ?_⟩
  rintro y rfl
  have e : ∀ b, b = nmB bad s → RetLe ⟨.agg [.int .i64 2, .int .i64 (rdN (s.takeWhile nmC)).1, .str [], .dsl 0 false [], .dsl 0 false []], [rdI t (pos' t (s.dropWhile nmC) : Nat) b room], [0]⟩ ⟨.agg (vwJ (nmJ s)), [rdI t (pos' t (s.dropWhile nmC) : Nat) (nmB bad s) room], [0]⟩ := by
    rintro _ rfl; exact ⟨rfl, rfl, by simp⟩
  refine ⟨readN_ok hA _ (by have := (List.takeWhile_prefix (l := s) nmC).length_le; have := h.length_le; omega), fun h1 => e _ (by unfold nmB; rw [h1]; rfl), fun h1 => ⟨fun h2 => e _ (by unfold nmB; rw [h2, h1]; rfl), fun h2 => ?_⟩⟩
  rintro y rfl
  exact ⟨isNumber_ok _, e _ (by unfold nmB; rw [h2, h1]; rfl)⟩
end Go.Proofs.YtfncaghjfgnnhaaGreatDoor

namespace Go.Proofs.YtfncaghjfgnnhaaGreatDoor
open Go.RowKit
set_option maxRecDepth 100000

structure RS where
  s : List UInt8
  bad : Bool
  room : Int
def RS.tk (r : RS) (p : List UInt8) : Bool × RS := (tkB p r.s r.bad, ⟨tkS p r.s r.bad, r.bad, r.room⟩)
def RS.want (r : RS) (p : List UInt8) : RS := ⟨tkS p r.s r.bad, !tkB p r.s r.bad, r.room⟩
def partsL {α : Type} (e : List UInt8) (f : RS → α → RS × α) : Nat → RS → α → RS × α
  | 0, r, a => (r, a)
  | n + 1, r, a => bif r.bad then (r, a) else
    bif ((f r a).1.tk e).1 then (((f r a).1.tk e).2, (f r a).2) else partsL e f n (((f r a).1.tk e).2.want [44]) (f r a).2
def partsE {α : Type} (e : List UInt8) (f : RS → α → RS × α) (r : RS) (a : α) : RS × α :=
  bif (r.tk e).1 then ((r.tk e).2, a) else partsL e f ((r.tk e).2.s.length + 2) (r.tk e).2 a

def kvGet (k : List UInt8) : List (List UInt8 × J) → Option J
  | [] => none
  | (k', j) :: m => if k == k' then some j else kvGet k m
def kvPut (k : List UInt8) (j : J) : List (List UInt8 × J) → List (List UInt8 × J)
  | [] => [(k, j)]
  | (k', j') :: m => if k == k' then (k, j) :: m else (k', j') :: kvPut k j m
def srt (ks : List (List UInt8)) : List (List UInt8) := ks.mergeSort fun x y => decide (x ≤ y)

def wNull : List UInt8 := [110, 117, 108, 108]
def wTrue : List UInt8 := [116, 114, 117, 101]
def wFalse : List UInt8 := [102, 97, 108, 115, 101]
structure KM where
  ks : List (List UInt8)
  m : List (List UInt8 × J)
def objStep (val : RS → J × RS) (r : RS) (a : KM) : RS × KM :=
  let r1 := r.want [34]
  let x := txtE r1.bad r1.s
  let r2 := (RS.mk x.2.2 x.2.1 r1.room).want [58]
  let v := val r2
  (⟨v.2.s, v.2.bad || (kvGet x.1 a.m).isSome, v.2.room⟩, ⟨a.ks ++ [x.1], kvPut x.1 v.1 a.m⟩)
def listStep (val : RS → J × RS) (r : RS) (L : List J) : RS × List J := ((val r).2, L ++ [(val r).1])
def objJ (a : KM) : J := .mk 5 0 [] (srt a.ks) ((srt a.ks).map fun k => (kvGet k a.m).getD J.zero)
def iVal : Nat → RS → J × RS
  | 0, r => (J.zero, ⟨skp r.s, true, r.room - 1⟩)
  | k + 1, r =>
    let s := skp r.s
    bif r.bad || decide (r.room - 1 < 0) || s.isEmpty then (J.zero, ⟨s, true, r.room - 1⟩)
    else bif pfx wNull s then (J.zero, ⟨s.drop 4, false, r.room - 1⟩)
    else bif pfx wTrue s then (.mk 1 1 [] [] [], ⟨s.drop 4, false, r.room - 1⟩)
    else bif pfx wFalse s then (.mk 1 0 [] [] [], ⟨s.drop 5, false, r.room - 1⟩)
    else bif pfx [34] s then (.mk 3 0 (txtE false (s.drop 1)).1 [] [], ⟨(txtE false (s.drop 1)).2.2, (txtE false (s.drop 1)).2.1, r.room - 1⟩)
    else bif pfx [91] s then
      let y := partsE [93] (listStep (iVal k)) ⟨s.drop 1, false, r.room - 1⟩ []
      (.mk 4 0 [] [] y.2, y.1)
    else bif pfx [123] s then
      let y := partsE [125] (objStep (iVal k)) ⟨s.drop 1, false, r.room - 1⟩ ⟨[], []⟩
      (objJ y.2, y.1)
    else (nmJ s, ⟨s.dropWhile nmC, nmB false s, r.room - 1⟩)

abbrev fVal : Nat := 47
abbrev fVal1 : Nat := 76
abbrev fParts : Nat := 75
abbrev fObj : Nat := 77
abbrev fObj1 : Nat := 98
abbrev tPRd : Nat := 62
def rsB (t : List UInt8) (r : RS) : Option Blk := rdI t (pos' t r.s : Nat) r.bad r.room
def lsB (L : List J) : Option Blk := some ([.int .i64 4, .int .i64 0, .str [], .osl 9 0 false [], .osl tJ L.length false (encs encJ L)], tJ)
def prB (b : Nat) : Option Blk := some ([.ptr b 0], tPRd)
def dpB (d : Int) : Option Blk := some ([.int .i64 d], tInt)
noncomputable def resV1 (val : RS → J × RS) : ResT := fun f vs hp => match vs, hp with
  | [.ptr 0 0, .int _ _], [some ([.str t, .int _ i, .bool bad, .int _ room], _)] => bif Nat.beq f fVal then some ⟨val ⟨t.drop i.toNat, bad, room⟩, fun y => ⟨.agg (vwJ y.1), [rsB t y.2], [0]⟩⟩ else none
  | _, _ => none
--FOLD vwJ
set_option maxRecDepth 100000 in
theorem val1T (val : RS → J × RS) (t : List UInt8) (L : List J) (d i : Int) (bad : Bool) (room : Int) : fnT { P := Tryz.prog, vw := vwA, res := resV1 val } 2 fVal1 [.ptr 0 0, .ptr 1 0, .ptr 2 0] [lsB L, prB 3, dpB d, rdI t i bad room] =
 T.bind (val (RS.mk (List.drop (Int.toNat i) t) bad room)) fun y0 =>
 T.need
 [FnOK (Env.P (Env.mk Tryz.prog vwA (resV1 val) (fun _ _ => none) [] [] none (MapE.mk (fun _ _ _ => none) fun _ _ _ _ => none) fun _ _ _ _ _ => none)) 47
 [V.ptr 0 0, V.int IntKind.i64 (IntKind.wrap IntKind.i64 (d + (1 : Int)))] [some ([V.str t, V.int IntKind.i64 i, V.bool bad, V.int IntKind.i64 room], 64)]
 (Ret.mk (V.agg (vwJ (Prod.fst y0))) [some ([V.str t, V.int IntKind.i64 (↑(pos' t (RS.s (Prod.snd y0))) : Int), V.bool (RS.bad (Prod.snd y0)), V.int IntKind.i64 (RS.room (Prod.snd y0))], 64)] [0])]
 (T.need [0 = 0, List.length (encs encJ L) = List.length L * 5, List.length L + 1 ≤ 9223372036854775807, (List.length L + 1) * 80 ≤ 140737488355328]
 (T.need [(0 : Int) ≤ (↑(List.length L) : Int) ∧ (↑(List.length L) : Int) < (↑(List.length L + 1) : Int)]
 (T.need [List.length (encs encJ L) = 0 + Int.toNat (↑(List.length L) : Int) * 5]
 (T.done
 (Ret.mk (V.tup [])
 [some ([V.int IntKind.i64 (4 : Int), V.int IntKind.i64 (0 : Int), V.str [], V.osl 9 0 false [], V.sl 4 0 (List.length L + 1) false], 25),
 some ([V.ptr 3 0], 62), some ([V.int IntKind.i64 d], 3),
 some ([V.str t, V.int IntKind.i64 (↑(pos' t (RS.s (Prod.snd y0))) : Int), V.bool (RS.bad (Prod.snd y0)), V.int IntKind.i64 (RS.room (Prod.snd y0))], 64),
 some
 ([V.sld
 (encs encJ L ++
 [V.int IntKind.i64 (J.kind (Prod.fst y0)), V.int IntKind.i64 (J.n (Prod.fst y0)), V.str (J.t (Prod.fst y0)),
 V.dsl (List.length (J.keys (Prod.fst y0))) false (encs encStr (J.keys (Prod.fst y0))), V.dsl (List.length (J.items (Prod.fst y0))) false (encs encJ (J.items (Prod.fst y0)))])],
 25)]
 [0, 3]))))) := (T.force_eq _).symm.trans (by kernel_rfl)

structure ROut (r r' : RS) : Prop where
  suf : r'.s <:+ r.s
  lo : r.room - 1 ≤ r'.room + 2 * ((r.s.length : Int) - r'.s.length)
  hi : r'.room ≤ r.room
structure RIn (t : List UInt8) (r : RS) : Prop where
  suf : r.s <:+ t
  lo : 0 ≤ r.room + 2 * ((t.length : Int) - r.s.length)
  hi : r.room ≤ 400
theorem ROut.refl (r : RS) : ROut r r := ⟨List.suffix_refl _, by omega, Int.le_refl _⟩
theorem tkB_len {p s : List UInt8} {bad : Bool} (h : tkB p s bad = true) : (tkS p s bad).length + p.length ≤ s.length ∧ bad = false := by
  have h1 : bad = false := by cases bad; rfl; simp [tkB] at h
  have h2 : pfx p (skp s) = true := by unfold tkB at h; rw [h1] at h; simpa using h
  have h3 := pfx_len h2
  have h4 : (skp s).length ≤ s.length := (List.dropWhile_suffix _).length_le
  refine ⟨?_, h1⟩
  unfold tkS; rw [if_pos h, List.length_drop]; omega
theorem tkS_suf' (p s : List UInt8) (bad : Bool) : tkS p s bad <:+ s := tkS_suf (List.suffix_refl s)
theorem tk_suf (r : RS) (p : List UInt8) : (r.tk p).2.s <:+ r.s := tkS_suf' ..
theorem want_suf (r : RS) (p : List UInt8) : (r.want p).s <:+ r.s := tkS_suf' ..
theorem want_on (r : RS) (p : List UInt8) : (r.want p).bad = true ∨ ((r.want p).s.length + p.length ≤ r.s.length ∧ r.bad = false) := by
  unfold RS.want
  cases h : tkB p r.s r.bad with
  | false => exact .inl rfl
  | true => exact .inr (tkB_len h)
theorem ROut.more {r r' r'' : RS} (h : ROut r r') (hs : r''.s <:+ r'.s) (hr : r''.room = r'.room) : ROut r r'' := by
  have := hs.length_le
  exact ⟨hs.trans h.suf, by have := h.lo; rw [hr]; omega, by rw [hr]; exact h.hi⟩
theorem partsL_out {α : Type} {e : List UInt8} {f : RS → α → RS × α} (hf : ∀ r a, ROut r (f r a).1) : ∀ (n : Nat) (r : RS) (a : α), ROut r (partsL e f n r a).1
  | 0, r, a => ROut.refl r
  | n + 1, r, a => by
    unfold partsL
    cases hb : r.bad with
    | true => exact ROut.refl r
    | false =>
      have h1 := hf r a
      have h2 := h1.more (tk_suf _ e) rfl
      cases ht : ((f r a).1.tk e).1 with
      | true => exact h2
      | false =>
        have ih := partsL_out (e := e) hf n (((f r a).1.tk e).2.want [44]) (f r a).2
        have h3 := h2.more (want_suf _ [44]) rfl
        show ROut r (partsL e f n (((f r a).1.tk e).2.want [44]) (f r a).2).1
        rcases want_on ((f r a).1.tk e).2 [44] with h4 | ⟨h4, _⟩
        · generalize ((f r a).1.tk e).2.want [44] = r3 at *
          cases n with
          | zero => exact h3
          | succ n =>
            unfold partsL
            rw [h4]; exact h3
        · generalize hr3 : ((f r a).1.tk e).2.want [44] = r3 at *
          have e3 : r3.room = (f r a).1.room := by rw [← hr3]; rfl
          have l1 := (tk_suf (f r a).1 e).length_le
          have l2 := h1.suf.length_le
          simp only [List.length_singleton] at h4
          refine ⟨ih.suf.trans h3.suf, ?_, by have := ih.hi; have := h3.hi; omega⟩
          have a1 := ih.lo
          have a2 := h1.lo
          omega
theorem partsE_out {α : Type} {e : List UInt8} {f : RS → α → RS × α} (hf : ∀ r a, ROut r (f r a).1) (r : RS) (a : α) : ROut r (partsE e f r a).1 := by
  unfold partsE
  have h1 := (ROut.refl r).more (tk_suf r e) rfl
  cases (r.tk e).1 with
  | true => exact h1
  | false =>
    have h2 := partsL_out (e := e) hf ((r.tk e).2.s.length + 2) (r.tk e).2 a
    have := (tk_suf r e).length_le
    have e3 : (r.tk e).2.room = r.room := rfl
    refine ⟨h2.suf.trans (tk_suf r e), ?_, by have := h2.hi; rw [e3] at this; exact this⟩
    have := h2.lo
    rw [e3] at this
    simp only [cond_false]
    omega
structure ValOK (t : List UInt8) (d : Int) (val : RS → J × RS) : Prop where
  run : ∀ r, RIn t r → FnOK Tryz.prog fVal [.ptr 0 0, .int .i64 d] [rsB t r] ⟨.agg (vwJ (val r).1), [rsB t (val r).2], [0]⟩
  out : ∀ r, ROut r (val r).2

theorem rs_eta {t : List UInt8} {r : RS} (h : r.s <:+ t) : RS.mk (t.drop ((pos' t r.s : Nat) : Int).toNat) r.bad r.room = r := by rw [Int.toNat_natCast, drop_pos h]
theorem val1_ok {t : List UInt8} {d : Int} {val : RS → J × RS} (hV : ValOK t (d + 1) val) (hd : 0 ≤ d ∧ d ≤ 1000) (r : RS) (hr : RIn t r) (L : List J) (hL : L.length ≤ 1048576) :
    FnOK Tryz.prog fVal1 [.ptr 0 0, .ptr 1 0, .ptr 2 0] [lsB L, prB 3, dpB d, rsB t r] ⟨.tup [], [lsB (listStep val r L).2, prB 3, dpB d, rsB t (listStep val r L).1, none], [0, 3]⟩ := by
  have h1 : FnOK Tryz.prog fVal1 [.ptr 0 0, .ptr 1 0, .ptr 2 0] [lsB L, prB 3, dpB d, rsB t r] ⟨.tup [], [some ([.int .i64 4, .int .i64 0, .str [], .osl 9 0 false []] ++ .sl 4 0 (L.length + 1) false :: [], tJ), prB 3, dpB d, rsB t (val r).2, some ([.sld (encs encJ (L ++ [(val r).1]))], tJ)], [0, 3]⟩ := by
    refine fnOK_TL (E := { P := Tryz.prog, vw := vwA, res := resV1 val }) follows named (val1T val t L d (pos' t r.s : Nat) r.bad r.room) (by simp) ?_
    simp only [T.WP, All, and_true, rs_eta hr.suf]
    rintro y rfl
    have hw : IntKind.i64.wrap (d + 1) = d + 1 := wrap_id (by omega)
    have hl := layJ.length L
    rw [hw]
    refine ⟨hV.run r hr, ⟨trivial, hl, by omega, by omega⟩, by omega, by rw [hl]; omega, ?_⟩
    refine ⟨rfl, ?_, by simp⟩
    rw [encs_snoc, encJ_vw]
    rfl
  have h2 := h1.prepOut (prepPack (b := 0) (c := 4) (pr := [.int .i64 4, .int .i64 0, .str [], .osl 9 0 false []]) (po := []) (by decide) rfl rfl rfl)
  have h3 := h2.more (wr := [0, 3]) (by simp [mem_lows]) (by simp)
  have e : lsB (listStep val r L).2 = some ([.int .i64 4, .int .i64 0, .str [], .osl 9 0 false []] ++ .osl tJ (L.length + 1) (hasO [.sld (encs encJ (L ++ [(val r).1]))]) (flat [.sld (encs encJ (L ++ [(val r).1]))]) :: [], tJ) := by
    simp [lsB, listStep, flat, hasO]
  rw [e]
  exact h3

end Go.Proofs.YtfncaghjfgnnhaaGreatDoor

namespace Go.Proofs.YtfncaghjfgnnhaaGreatDoor
open Go.RowKit
set_option maxRecDepth 100000

noncomputable def resRd : ResT := fun f vs hp => match vs, hp with
  | [.ptr 0 0, .str p], [some ([.str t, .int _ i, .bool bad, .int _ room], _)] =>
    bif Nat.beq f fTake then some ⟨(RS.mk (t.drop i.toNat) bad room).tk p, fun y => ⟨.bool y.1, [rsB t y.2], [0]⟩⟩
    else bif Nat.beq f fWant then some ⟨(RS.mk (t.drop i.toNat) bad room).want p, fun y => ⟨.tup [], [rsB t y], [0]⟩⟩
    else none
  | _, _ => none
theorem tk_ok {t : List UInt8} (p : List UInt8) (ht : t.length ≤ 1048576) (r : RS) (h : r.s <:+ t) : FnOK Tryz.prog fTake [.ptr 0 0, .str p] [rsB t r] ⟨.bool (r.tk p).1, [rsB t (r.tk p).2], [0]⟩ := take_ok p (by omega) h r.bad r.room
theorem wt_ok {t : List UInt8} (p : List UInt8) (ht : t.length ≤ 1048576) (r : RS) (h : r.s <:+ t) : FnOK Tryz.prog fWant [.ptr 0 0, .str p] [rsB t r] ⟨.tup [], [rsB t (r.want p)], [0]⟩ := want_ok p (by omega) h r.bad r.room

noncomputable def resPa (val : RS → J × RS) : ResT := fun f vs hp => match vs, hp with
  | [.ptr 0 0, .ptr 1 0, .ptr 2 0], [some ([_, _, _, _, .osl _ _ _ cs], _), some _, some ([.int _ d], _), some ([.str t, .int _ i, .bool bad, .int _ room], _)] =>
    bif Nat.beq f fVal1 then some ⟨listStep val ⟨t.drop i.toNat, bad, room⟩ (decL encJ cs), fun y => ⟨.tup [], [lsB y.2, prB 3, dpB d, rsB t y.1, none], [0, 3]⟩⟩ else none
  | vs, hp => resRd f vs hp
noncomputable def EPa (val : RS → J × RS) : Env := { P := Tryz.prog, vw := vwA, res := resPa val }
def stPa (t : List UInt8) (e : List UInt8) (L : List J) (d i : Int) (bad : Bool) (room : Int) : St := ⟨mkTm 21 [(0, .ptr 0 0), (1, .str e), (2, .fn fVal1 [.ptr 1 0, .ptr 2 0, .ptr 3 0])], [rdI t i bad room, lsB L, prB 0, dpB d], [0, 1]⟩
def nfPa : Ex → Kp := fun ex => match ex with
  | .normal => { keep := [0, 1, 2], wr := [0, 1] }
  | _ => { keep := [], wr := [0, 1] }
--FOLD vwJ rdI lsB prB dpB rsB
set_option maxRecDepth 100000 in
theorem partL0 (val : RS → J × RS) (t e : List UInt8) (L : List J) (d i : Int) (bad : Bool) (room : Int) : bodyT (EPa val) 4 nfPa (lp Tryz.prog fParts 0) (stPa t e L d i bad room) =
 bif !bad then
 T.bind (listStep val (RS.mk (List.drop (Int.toNat i) t) bad room) (decL encJ (encs encJ L))) fun y0 =>
 T.need
 [FnOK (Env.P (EPa val)) 76 [V.ptr 0 0, V.ptr 1 0, V.ptr 2 0] [lsB L, prB 3, dpB d, rdI t i bad room]
 (Ret.mk (V.tup []) [lsB (Prod.snd y0), prB 3, dpB d, rdI t (↑(pos' t (RS.s (Prod.fst y0))) : Int) (RS.bad (Prod.fst y0)) (RS.room (Prod.fst y0)), none] [0, 3])]
 (T.bind (RS.tk (RS.mk (List.drop (Int.toNat (↑(pos' t (RS.s (Prod.fst y0))) : Int)) t) (RS.bad (Prod.fst y0)) (RS.room (Prod.fst y0))) e) fun y1 =>
 T.need
 [FnOK (Env.P (EPa val)) 73 [V.ptr 0 0, V.str e] [rdI t (↑(pos' t (RS.s (Prod.fst y0))) : Int) (RS.bad (Prod.fst y0)) (RS.room (Prod.fst y0))]
 (Ret.mk (V.bool (Prod.fst y1)) [rdI t (↑(pos' t (RS.s (Prod.snd y1))) : Int) (RS.bad (Prod.snd y1)) (RS.room (Prod.snd y1))] [0])]
 (bif Prod.fst y1 then
 T.done (Ex.ret, St.mk (mkTm 21 []) [rdI t (↑(pos' t (RS.s (Prod.snd y1))) : Int) (RS.bad (Prod.snd y1)) (RS.room (Prod.snd y1)), lsB (Prod.snd y0), prB 0, dpB d] [0, 1])
 else
 T.bind (RS.want (RS.mk (List.drop (Int.toNat (↑(pos' t (RS.s (Prod.snd y1))) : Int)) t) (RS.bad (Prod.snd y1)) (RS.room (Prod.snd y1))) [(44 : UInt8)]) fun y2 =>
 T.need
 [FnOK (Env.P (EPa val)) 97 [V.ptr 0 0, V.str [44]] [rdI t (↑(pos' t (RS.s (Prod.snd y1))) : Int) (RS.bad (Prod.snd y1)) (RS.room (Prod.snd y1))]
 (Ret.mk (V.tup []) [rdI t (↑(pos' t (RS.s y2)) : Int) (RS.bad y2) (RS.room y2)] [0])]
 (T.done
 (Ex.normal,
 St.mk (mkTm 21 [(0, V.ptr 0 0), (1, V.str e), (2, V.fn 76 [V.ptr 1 0, V.ptr 2 0, V.ptr 3 0])])
 [rdI t (↑(pos' t (RS.s y2)) : Int) (RS.bad y2) (RS.room y2), lsB (Prod.snd y0), prB 0, dpB d] [0, 1]))))
 else T.done (Ex.exit 0, St.mk (mkTm 21 []) [rdI t i bad room, lsB L, prB 0, dpB d] [0, 1]) := by kernel_rfl
theorem rs_eta' {t s : List UInt8} {bad : Bool} {room : Int} (h : s <:+ t) : RS.mk (t.drop ((pos' t s : Nat) : Int).toNat) bad room = ⟨s, bad, room⟩ := by rw [Int.toNat_natCast, drop_pos h]
theorem partsL_bad {α : Type} (e : List UInt8) (f : RS → α → RS × α) (n : Nat) (s : List UInt8) (room : Int) (a : α) : partsL e f n ⟨s, true, room⟩ a = (⟨s, true, room⟩, a) := by cases n <;> rfl
theorem partsL_on {α : Type} (e : List UInt8) (f : RS → α → RS × α) (n : Nat) {r : RS} (a : α) (h : r.bad = false) : partsL e f (n + 1) r a = bif ((f r a).1.tk e).1 then (((f r a).1.tk e).2, (f r a).2) else partsL e f n (((f r a).1.tk e).2.want [44]) (f r a).2 := by
  conv => lhs; unfold partsL
  rw [h]; rfl
theorem part_on {t e : List UInt8} {r r1 : RS} (hs : r.s <:+ t) (hI : RIn t r) (o1 : ROut r r1) (hb3 : ((r1.tk e).2.want [44]).bad = false) : RIn t ((r1.tk e).2.want [44]) ∧ ((r1.tk e).2.want [44]).s.length + 1 ≤ r.s.length := by
  have h4 := (want_on (r1.tk e).2 [44]).resolve_left (by rw [hb3]; simp)
  have l1 := (tk_suf r1 e).length_le
  have l2 := o1.suf.length_le
  have e4 : ((r1.tk e).2.want [44]).room = r1.room := rfl
  simp only [List.length_singleton] at h4
  have a1 := o1.lo
  have a2 := hI.lo
  have l0 := hs.length_le
  exact ⟨⟨((want_suf _ _).trans ((tk_suf _ e).trans o1.suf)).trans hs, by rw [e4]; omega, by rw [e4]; exact Int.le_trans o1.hi hI.hi⟩, by omega⟩
theorem partL_loop {t e : List UInt8} {d : Int} {val : RS → J × RS} (ht : t.length ≤ 1000000) (hd : 0 ≤ d ∧ d ≤ 1000) (hV : ValOK t (d + 1) val) : ∀ (n : Nat) (r : RS) (L : List J), r.s <:+ t → (r.bad = false → RIn t r ∧ L.length + r.s.length ≤ t.length + 1 ∧ r.s.length + 2 ≤ n) → 1 ≤ n →
    LoopTo Tryz.prog 4 (lp Tryz.prog fParts 0) (stPa t e L d (pos' t r.s : Nat) r.bad r.room) (bif (partsL e (listStep val) n r L).1.bad then .exit 0 else .ret) ⟨mkTm 21 [], [rsB t (partsL e (listStep val) n r L).1, lsB (partsL e (listStep val) n r L).2, prB 0, dpB d], [0, 1]⟩
  | 0, r, L, hs, hr, hn => by omega
  | n + 1, ⟨s, true, room⟩, L, hs, hr, hn => by
    have tree := partL0 val t e L d (pos' t s : Nat) true room
    rw [partsL_bad]
    refine loopT (E := EPa val) follows named tree ?_
    simp only [WP_cond, T.WP, All, and_true]
    exact ⟨fun h => by simp at h, fun _ => ⟨rfl, rfl⟩⟩
  | n + 1, ⟨s, false, room⟩, L, hs, hr, hn => by
    have tree := partL0 val t e L d (pos' t s : Nat) false room
    rw [rs_eta' hs, layJ.decL] at tree
    obtain ⟨hI, hL, hn2⟩ := hr rfl
    have o1 : ROut ⟨s, false, room⟩ (listStep val ⟨s, false, room⟩ L).1 := hV.out _
    have c1 := val1_ok hV hd _ hI L (by omega)
    rw [partsL_on _ _ _ _ rfl]
    have hlen : (listStep val ⟨s, false, room⟩ L).2.length = L.length + 1 := by simp [listStep]
    generalize listStep val ⟨s, false, room⟩ L = y1 at *
    obtain ⟨r1, L1⟩ := y1
    have s1 : r1.s <:+ t := o1.suf.trans hs
    have s2 : (r1.tk e).2.s <:+ t := (tk_suf _ e).trans s1
    have s3 : ((r1.tk e).2.want [44]).s <:+ t := (want_suf _ _).trans s2
    have c2 := tk_ok e (by omega) r1 s1
    have c3 := wt_ok [44] (by omega) (r1.tk e).2 s2
    cases hk : (r1.tk e).1 with
    | true =>
      have hb2 : (r1.tk e).2.bad = false := (tkB_len hk).2
      refine loopT (E := EPa val) follows named tree ?_
      simp only [WP_cond, T.WP, All, and_true, cond_true, hb2, cond_false]
      refine ⟨fun _ => ?_, fun h => by simp at h⟩
      rintro y rfl
      refine ⟨c1, ?_⟩
      simp only [rs_eta s1]
      rintro y rfl
      refine ⟨c2, fun _ => ⟨rfl, ?_⟩, fun h => by rw [hk] at h; cases h⟩
      simp only [rsB, hb2]
    | false =>
      simp only [cond_false]
      have ih := partL_loop (e := e) ht hd hV n ((r1.tk e).2.want [44]) L1 s3 (fun hb3 => by
        obtain ⟨q1, q2⟩ := part_on hs hI o1 hb3
        simp only at hlen q2 hL hn2
        exact ⟨q1, by omega, by omega⟩) (by omega)
      refine loopT (E := EPa val) follows named tree ?_
      simp only [WP_cond, T.WP, All, and_true]
      refine ⟨fun _ => ?_, fun h => by simp at h⟩
      rintro y rfl
      refine ⟨c1, ?_⟩
      simp only [rs_eta s1]
      rintro y rfl
      refine ⟨c2, (fun h => by rw [hk] at h; cases h), fun _ => ?_⟩
      simp only [rs_eta s2]
      rintro y rfl
      exact ⟨c3, ih⟩

noncomputable def lsPa (e : List UInt8) (val : RS → J × RS) : Nat → St → Option LRes := fun id s => match id, s.hp with
  | 0, [some ([.str t, .int _ i, .bool bad, .int _ room], _), some ([_, _, _, _, .osl _ _ _ cs], _), some _, some ([.int _ d], _)] =>
    some ⟨partsL e (listStep val) ((t.drop i.toNat).length + 2) ⟨t.drop i.toNat, bad, room⟩ (decL encJ cs), fun y => .two { keep := [0, 1, 2], wr := [0, 1] } (stPa t e (decL encJ cs) d i bad room) y.1.bad (.exit 0) ⟨mkTm 21 [], [rsB t y.1, lsB y.2, prB 0, dpB d], [0, 1]⟩ .ret ⟨mkTm 21 [], [rsB t y.1, lsB y.2, prB 0, dpB d], [0, 1]⟩⟩
  | _, _ => none
set_option maxRecDepth 100000 in
theorem partsT (val : RS → J × RS) (t e : List UInt8) (L : List J) (d i : Int) (bad : Bool) (room : Int) : fnT { P := Tryz.prog, vw := vwA, res := resPa val, ls := lsPa e val } 0 fParts [.ptr 0 0, .str e, .fn fVal1 [.ptr 1 0, .ptr 2 0, .ptr 3 0]] [rdI t i bad room, lsB L, prB 0, dpB d] =
 T.bind (RS.tk (RS.mk (List.drop (Int.toNat i) t) bad room) e) fun y0 =>
 T.need
 [FnOK (Env.P (Env.mk Tryz.prog vwA (resPa val) (lsPa e val) [] [] none (MapE.mk (fun _ _ _ => none) fun _ _ _ _ => none) fun _ _ _ _ _ => none)) 73 [V.ptr 0 0, V.str e]
 [rdI t i bad room] (Ret.mk (V.bool (Prod.fst y0)) [rdI t (↑(pos' t (RS.s (Prod.snd y0))) : Int) (RS.bad (Prod.snd y0)) (RS.room (Prod.snd y0))] [0])]
 (bif Prod.fst y0 then T.done (Ret.mk (V.tup []) [rdI t (↑(pos' t (RS.s (Prod.snd y0))) : Int) (RS.bad (Prod.snd y0)) (RS.room (Prod.snd y0)), lsB L, prB 0, dpB d] [0])
 else
 T.bind
 (partsL e (listStep val) (List.length (List.drop (Int.toNat (↑(pos' t (RS.s (Prod.snd y0))) : Int)) t) + 2)
 (RS.mk (List.drop (Int.toNat (↑(pos' t (RS.s (Prod.snd y0))) : Int)) t) (RS.bad (Prod.snd y0)) (RS.room (Prod.snd y0))) (decL encJ (encs encJ L)))
 fun y1 =>
 T.need
 [St.mk (mkTm 21 [(0, V.ptr 0 0), (1, V.str e), (2, V.fn 76 [V.ptr 1 0, V.ptr 2 0, V.ptr 3 0])])
 [rdI t (↑(pos' t (RS.s (Prod.snd y0))) : Int) (RS.bad (Prod.snd y0)) (RS.room (Prod.snd y0)), lsB L, prB 0, dpB d] [0, 1] =
 St.mk (mkTm 21 [(0, V.ptr 0 0), (1, V.str e), (2, V.fn 76 [V.ptr 1 0, V.ptr 2 0, V.ptr 3 0])])
 [rdI t (↑(pos' t (RS.s (Prod.snd y0))) : Int) (RS.bad (Prod.snd y0)) (RS.room (Prod.snd y0)), lsB (decL encJ (encs encJ L)), prB 0, dpB d] [0, 1]]
 (bif RS.bad (Prod.fst y1) then
 T.need
 [SoundC (Env.P (Env.mk Tryz.prog vwA (resPa val) (lsPa e val) [] [] none (MapE.mk (fun _ _ _ => none) fun _ _ _ _ => none) fun _ _ _ _ _ => none)) 4
 (blk Tryz.prog fParts 0)
 (St.mk (mkTm 21 [(0, V.ptr 0 0), (1, V.str e), (2, V.fn 76 [V.ptr 1 0, V.ptr 2 0, V.ptr 3 0])])
 [rdI t (↑(pos' t (RS.s (Prod.snd y0))) : Int) (RS.bad (Prod.snd y0)) (RS.room (Prod.snd y0)), lsB (decL encJ (encs encJ L)), prB 0, dpB d] [0, 1])
 (Ex.exit 0)
 (St.mk (mkTm 21 []) [rdI t (↑(pos' t (RS.s (Prod.fst y1))) : Int) (RS.bad (Prod.fst y1)) (RS.room (Prod.fst y1)), lsB (Prod.snd y1), prB 0, dpB d] [0, 1])]
 (T.done (Ret.mk (V.tup []) [rdI t (↑(pos' t (RS.s (Prod.fst y1))) : Int) (RS.bad (Prod.fst y1)) (RS.room (Prod.fst y1)), lsB (Prod.snd y1), prB 0, dpB d] [0, 1]))
 else
 T.need
 [SoundC (Env.P (Env.mk Tryz.prog vwA (resPa val) (lsPa e val) [] [] none (MapE.mk (fun _ _ _ => none) fun _ _ _ _ => none) fun _ _ _ _ _ => none)) 4
 (blk Tryz.prog fParts 0)
 (St.mk (mkTm 21 [(0, V.ptr 0 0), (1, V.str e), (2, V.fn 76 [V.ptr 1 0, V.ptr 2 0, V.ptr 3 0])])
 [rdI t (↑(pos' t (RS.s (Prod.snd y0))) : Int) (RS.bad (Prod.snd y0)) (RS.room (Prod.snd y0)), lsB (decL encJ (encs encJ L)), prB 0, dpB d] [0, 1])
 Ex.ret (St.mk (mkTm 21 []) [rdI t (↑(pos' t (RS.s (Prod.fst y1))) : Int) (RS.bad (Prod.fst y1)) (RS.room (Prod.fst y1)), lsB (Prod.snd y1), prB 0, dpB d] [0, 1])]
 (T.done (Ret.mk (V.tup []) [rdI t (↑(pos' t (RS.s (Prod.fst y1))) : Int) (RS.bad (Prod.fst y1)) (RS.room (Prod.fst y1)), lsB (Prod.snd y1), prB 0, dpB d] [0, 1])))) := (T.force_eq _).symm.trans (by kernel_rfl)
theorem partsList_ok {t e : List UInt8} {d : Int} {val : RS → J × RS} (ht : t.length ≤ 1000000) (hd : 0 ≤ d ∧ d ≤ 1000) (hV : ValOK t (d + 1) val) (r : RS) (hr : RIn t r) :
    FnOK Tryz.prog fParts [.ptr 0 0, .str e, .fn fVal1 [.ptr 1 0, .ptr 2 0, .ptr 3 0]] [rsB t r, lsB [], prB 0, dpB d] ⟨.tup [], [rsB t (partsE e (listStep val) r []).1, lsB (partsE e (listStep val) r []).2, prB 0, dpB d], [0, 1]⟩ := by
  refine fnOK_TL (E := { P := Tryz.prog, vw := vwA, res := resPa val, ls := lsPa e val }) follows named (partsT val t e [] d (pos' t r.s : Nat) r.bad r.room) (by simp) ?_
  simp only [WP_cond, T.WP, All, and_true, rs_eta hr.suf]
  rintro y rfl
  have s2 : (r.tk e).2.s <:+ t := (tk_suf r e).trans hr.suf
  have hI2 : RIn t (r.tk e).2 := ⟨s2, by have := hr.lo; have := (tk_suf r e).length_le; show 0 ≤ r.room + _; omega, hr.hi⟩
  have hl := partL_loop (e := e) ht hd hV ((r.tk e).2.s.length + 2) (r.tk e).2 [] s2 (fun _ => ⟨hI2, by have := s2.length_le; simp; omega, Nat.le_refl _⟩) (by omega)
  have e0 : partsE e (listStep val) r [] = bif (r.tk e).1 then ((r.tk e).2, []) else partsL e (listStep val) ((r.tk e).2.s.length + 2) (r.tk e).2 [] := rfl
  rw [e0]
  refine ⟨tk_ok e (by omega) r hr.suf, fun h => ?_, fun h => ?_⟩
  · rw [h]; exact ⟨rfl, rfl, by simp⟩
  · rw [h, rs_eta s2, Int.toNat_natCast, drop_pos s2, layJ.decL]
    simp only [cond_false]
    generalize partsL e (listStep val) ((r.tk e).2.s.length + 2) (r.tk e).2 [] = y at *
    rintro y rfl
    refine ⟨trivial, fun h1 => ?_, fun h1 => ?_⟩
    · rw [h1] at hl; exact ⟨.loopTo hl, ⟨rfl, rfl, by simp⟩⟩
    · rw [h1] at hl; exact ⟨.loopTo hl, ⟨rfl, rfl, by simp⟩⟩
def nwB (k : Int) : Option Blk := some ([.int .i64 k, .int .i64 0, .str [], .dsl 0 true [], .dsl 0 true []], tJ)
theorem partsList_nil {t e : List UInt8} {d : Int} {val : RS → J × RS} (ht : t.length ≤ 1000000) (hd : 0 ≤ d ∧ d ≤ 1000) (hV : ValOK t (d + 1) val) (r : RS) (hr : RIn t r) :
    FnOK Tryz.prog fParts [.ptr 0 0, .str e, .fn fVal1 [.ptr 1 0, .ptr 2 0, .ptr 3 0]] [rsB t r, nwB 4, prB 0, dpB d] ⟨.tup [], [rsB t (partsE e (listStep val) r []).1, lsB (partsE e (listStep val) r []).2, prB 0, dpB d], [0, 1]⟩ := by
  have p1 : PrepOK Tryz.prog [rsB t r, nwB 4, prB 0, dpB d] [rsB t r, some ([.int .i64 4, .int .i64 0, .str []] ++ .dsl 0 true [] :: [.osl tJ 0 false []], tJ), prB 0, dpB d] [1] :=
    prepNil (b := 1) (pr := [.int .i64 4, .int .i64 0, .str [], .dsl 0 true []]) (c := .dsl 0 true []) (po := []) (E := tJ) rfl rfl
  have p2 : PrepOK Tryz.prog [rsB t r, some ([.int .i64 4, .int .i64 0, .str []] ++ .dsl 0 true [] :: [.osl tJ 0 false []], tJ), prB 0, dpB d] [rsB t r, lsB [], prB 0, dpB d] [1] :=
    prepNil (b := 1) (pr := [.int .i64 4, .int .i64 0, .str []]) (c := .dsl 0 true []) (po := [.osl tJ 0 false []]) (E := 9) rfl rfl
  have h := (partsList_ok (e := e) ht hd hV r hr).prepIn p2 (fun b hb h => by
    simp at hb
    rcases hb with rfl | rfl
    · exact ⟨_, rfl⟩
    · exact ⟨_, rfl⟩)
  have h2 := h.prepIn p1 (fun b hb h => by
    have hb' := (mem_lows.1 hb).1
    simp at hb'
    rcases hb' with rfl | rfl | rfl
    · exact ⟨_, rfl⟩
    · exact ⟨_, rfl⟩
    · exact ⟨_, rfl⟩)
  exact h2.more (by simp [mem_lows]) (by simp)
end Go.Proofs.YtfncaghjfgnnhaaGreatDoor

namespace Go.Proofs
open Go.Shelf

def Tryz.lays137_ren : Go.Shelf.Ren := ⟨fun | 137 => 96 | 217 => 108 | 266 => 122 | n => n, fun | 9 => 9 | 5 => 5 | 3 => 3 | n => n, fun | n => n⟩
set_option maxRecDepth 100000 in
theorem Tryz.lays137 : Go.Proofs.Lays.n137 Tryz.prog Tryz.lays137_ren where
  mixed := by kernel_rfl
  f137 := Tryz.func96.trans (congrArg some (by kernel_rfl))
  f217 := Tryz.func108.trans (congrArg some (by kernel_rfl))
  f266 := Tryz.func122.trans (congrArg some (by kernel_rfl))
  t3 := Tryz.underlying3
  a3 := Tryz.isAgg3
  z3 := Tryz.sizeOf3
  v3 := Tryz.zeroValue3
  t5 := Tryz.underlying5
  a5 := Tryz.isAgg5
  z5 := Tryz.sizeOf5
  v5 := Tryz.zeroValue5
  t9 := Tryz.underlying9
  a9 := Tryz.isAgg9
  z9 := Tryz.sizeOf9
  v9 := Tryz.zeroValue9

def Tryz.lays172_ren : Go.Shelf.Ren := ⟨fun | 172 => 111 | 244 => 134 | 245 => 135 | 247 => 153 | 279 => 154 | 280 => 155 | 281 => 156 | 282 => 157 | 287 => 167 | 316 => 168 | 171 => 54 | 205 => 169 | 321 => 179 | 322 => 180 | 243 => 83 | 246 => 104 | 283 => 116 | 284 => 117 | 285 => 118 | 286 => 119 | 129 => 133 | 317 => 143 | 318 => 144 | 319 => 145 | 320 => 146 | 337 => 164 | 338 => 165 | n => n, fun | 9 => 9 | 3 => 3 | 75 => 89 | 76 => 90 | 4 => 4 | 5 => 5 | 167 => 166 | 37 => 31 | 0 => 0 | 85 => 167 | 2 => 2 | 168 => 169 | 53 => 127 | 175 => 188 | 46 => 122 | 210 => 191 | 127 => 119 | 145 => 208 | 143 => 206 | 21 => 21 | 171 => 126 | 173 => 130 | 212 => 159 | 51 => 104 | 20 => 20 | 213 => 160 | 232 => 203 | 233 => 204 | 80 => 51 | n => n, fun | 15 => 2 | 16 => 3 | 17 => 0 | 18 => 4 | 19 => 5 | n => n⟩
set_option maxRecDepth 100000 in
theorem Tryz.lays172 : Go.Proofs.LaysC.n172 Tryz.prog Tryz.lays172_ren where
  mixed := by kernel_rfl
  f129 := Tryz.func133.trans (congrArg some (by kernel_rfl))
  f171 := Tryz.func54.trans (congrArg some (by kernel_rfl))
  f172 := Tryz.func111.trans (congrArg some (by kernel_rfl))
  f205 := Tryz.func169.trans (congrArg some (by kernel_rfl))
  f243 := Tryz.func83.trans (congrArg some (by kernel_rfl))
  f244 := Tryz.func134.trans (congrArg some (by kernel_rfl))
  f245 := Tryz.func135.trans (congrArg some (by kernel_rfl))
  f246 := Tryz.func104.trans (congrArg some (by kernel_rfl))
  f247 := Tryz.func153.trans (congrArg some (by kernel_rfl))
  f279 := Tryz.func154.trans (congrArg some (by kernel_rfl))
  f280 := Tryz.func155.trans (congrArg some (by kernel_rfl))
  f281 := Tryz.func156.trans (congrArg some (by kernel_rfl))
  f282 := Tryz.func157.trans (congrArg some (by kernel_rfl))
  f283 := Tryz.func116.trans (congrArg some (by kernel_rfl))
  f284 := Tryz.func117.trans (congrArg some (by kernel_rfl))
  f285 := Tryz.func118.trans (congrArg some (by kernel_rfl))
  f286 := Tryz.func119.trans (congrArg some (by kernel_rfl))
  f287 := Tryz.func167.trans (congrArg some (by kernel_rfl))
  f316 := Tryz.func168.trans (congrArg some (by kernel_rfl))
  f317 := Tryz.func143.trans (congrArg some (by kernel_rfl))
  f318 := Tryz.func144.trans (congrArg some (by kernel_rfl))
  f319 := Tryz.func145.trans (congrArg some (by kernel_rfl))
  f320 := Tryz.func146.trans (congrArg some (by kernel_rfl))
  f321 := Tryz.func179.trans (congrArg some (by kernel_rfl))
  f322 := Tryz.func180.trans (congrArg some (by kernel_rfl))
  f337 := Tryz.func164.trans (congrArg some (by kernel_rfl))
  f338 := Tryz.func165.trans (congrArg some (by kernel_rfl))
  t0 := Tryz.underlying0
  a0 := Tryz.isAgg0
  z0 := Tryz.sizeOf0
  v0 := Tryz.zeroValue0
  t2 := Tryz.underlying2
  a2 := Tryz.isAgg2
  z2 := Tryz.sizeOf2
  v2 := Tryz.zeroValue2
  t3 := Tryz.underlying3
  a3 := Tryz.isAgg3
  z3 := Tryz.sizeOf3
  v3 := Tryz.zeroValue3
  t4 := Tryz.underlying4
  a4 := Tryz.isAgg4
  z4 := Tryz.sizeOf4
  v4 := Tryz.zeroValue4
  t5 := Tryz.underlying5
  a5 := Tryz.isAgg5
  z5 := Tryz.sizeOf5
  v5 := Tryz.zeroValue5
  t9 := Tryz.underlying9
  a9 := Tryz.isAgg9
  z9 := Tryz.sizeOf9
  v9 := Tryz.zeroValue9
  t20 := Tryz.underlying20
  a20 := Tryz.isAgg20
  z20 := Tryz.sizeOf20
  v20 := Tryz.zeroValue20
  t21 := Tryz.underlying21
  a21 := Tryz.isAgg21
  z21 := Tryz.sizeOf21
  v21 := Tryz.zeroValue21
  t37 := Tryz.underlying31
  a37 := Tryz.isAgg31
  z37 := Tryz.sizeOf31
  v37 := Tryz.zeroValue31
  t46 := Tryz.underlying122
  a46 := Tryz.isAgg122
  z46 := Tryz.sizeOf122
  v46 := Tryz.zeroValue122
  t51 := Tryz.underlying104
  a51 := Tryz.isAgg104
  z51 := Tryz.sizeOf104
  v51 := Tryz.zeroValue104
  t53 := Tryz.underlying127
  a53 := Tryz.isAgg127
  z53 := Tryz.sizeOf127
  v53 := Tryz.zeroValue127
  t75 := Tryz.underlying89
  a75 := Tryz.isAgg89
  z75 := Tryz.sizeOf89
  v75 := Tryz.zeroValue89
  t76 := Tryz.underlying90
  a76 := Tryz.isAgg90
  z76 := Tryz.sizeOf90
  v76 := Tryz.zeroValue90
  t85 := Tryz.underlying167
  a85 := Tryz.isAgg167
  z85 := Tryz.sizeOf167
  v85 := Tryz.zeroValue167
  t127 := Tryz.underlying119
  a127 := Tryz.isAgg119
  z127 := Tryz.sizeOf119
  v127 := Tryz.zeroValue119
  t143 := Tryz.underlying206
  a143 := Tryz.isAgg206
  z143 := Tryz.sizeOf206
  v143 := Tryz.zeroValue206
  t145 := Tryz.underlying208
  a145 := Tryz.isAgg208
  z145 := Tryz.sizeOf208
  v145 := Tryz.zeroValue208
  t167 := Tryz.underlying166
  a167 := Tryz.isAgg166
  z167 := Tryz.sizeOf166
  v167 := Tryz.zeroValue166
  t168 := Tryz.underlying169
  a168 := Tryz.isAgg169
  z168 := Tryz.sizeOf169
  v168 := Tryz.zeroValue169
  t171 := Tryz.underlying126
  a171 := Tryz.isAgg126
  z171 := Tryz.sizeOf126
  v171 := Tryz.zeroValue126
  t173 := Tryz.underlying130
  a173 := Tryz.isAgg130
  z173 := Tryz.sizeOf130
  v173 := Tryz.zeroValue130
  t175 := Tryz.underlying188
  a175 := Tryz.isAgg188
  z175 := Tryz.sizeOf188
  v175 := Tryz.zeroValue188
  t210 := Tryz.underlying191
  a210 := Tryz.isAgg191
  z210 := Tryz.sizeOf191
  v210 := Tryz.zeroValue191
  t212 := Tryz.underlying159
  a212 := Tryz.isAgg159
  z212 := Tryz.sizeOf159
  v212 := Tryz.zeroValue159
  t213 := Tryz.underlying160
  a213 := Tryz.isAgg160
  z213 := Tryz.sizeOf160
  t232 := Tryz.underlying203
  a232 := Tryz.isAgg203
  z232 := Tryz.sizeOf203
  v232 := Tryz.zeroValue203
  t233 := Tryz.underlying204
  a233 := Tryz.isAgg204
  z233 := Tryz.sizeOf204
  v233 := Tryz.zeroValue204
  g15 := by kernel_rfl
  g16 := by kernel_rfl
  g17 := by kernel_rfl
  g18 := by kernel_rfl
  g19 := by kernel_rfl
  t80 := Tryz.underlying51
  a80 := Tryz.isAgg51
  z80 := Tryz.sizeOf51
  v80 := Tryz.zeroValue51
  i0 := by kernel_rfl
  i2 := by kernel_rfl
  i3 := by kernel_rfl
  i4 := by kernel_rfl
  i5 := by kernel_rfl
  i9 := by kernel_rfl
  i20 := by kernel_rfl
  i21 := by kernel_rfl
  i37 := by kernel_rfl
  i46 := by kernel_rfl
  i51 := by kernel_rfl
  i53 := by kernel_rfl
  i75 := by kernel_rfl
  i76 := by kernel_rfl
  i80 := by kernel_rfl
  i85 := by kernel_rfl
  i127 := by kernel_rfl
  i143 := by kernel_rfl
  i145 := by kernel_rfl
  i167 := by kernel_rfl
  i168 := by kernel_rfl
  i171 := by kernel_rfl
  i173 := by kernel_rfl
  i175 := by kernel_rfl
  i210 := by kernel_rfl
  i212 := by kernel_rfl
  i232 := by kernel_rfl
  i233 := by kernel_rfl
  m15 := by kernel_rfl
  m16 := by kernel_rfl
  m17 := by kernel_rfl
  m18 := by kernel_rfl
  m19 := by kernel_rfl
  c0 := by kernel_rfl
  c2 := by kernel_rfl
  c3 := by kernel_rfl
  c4 := by kernel_rfl
  c5 := by kernel_rfl
  c9 := by kernel_rfl
  c20 := by kernel_rfl
  c21 := by kernel_rfl
  c37 := by kernel_rfl
  c46 := by kernel_rfl
  c51 := by kernel_rfl
  c53 := by kernel_rfl
  c75 := by kernel_rfl
  c76 := by kernel_rfl
  c80 := by kernel_rfl
  c85 := by kernel_rfl
  c127 := by kernel_rfl
  c143 := by kernel_rfl
  c145 := by kernel_rfl
  c167 := by kernel_rfl
  c168 := by kernel_rfl
  c171 := by kernel_rfl
  c173 := by kernel_rfl
  c175 := by kernel_rfl
  c210 := by kernel_rfl
  c212 := by kernel_rfl
  c213 := by kernel_rfl
  c232 := by kernel_rfl
  c233 := by kernel_rfl

def Tryz.lays190_ren : Go.Shelf.Ren := ⟨fun | 190 => 99 | 125 => 110 | 258 => 109 | 128 => 132 | 129 => 133 | 302 => 123 | 303 => 124 | 304 => 125 | 305 => 126 | 306 => 127 | 307 => 128 | 308 => 129 | 309 => 130 | 310 => 131 | 333 => 147 | 329 => 148 | 330 => 149 | 334 => 150 | 335 => 151 | 336 => 152 | 344 => 166 | n => n, fun | 31 => 22 | 9 => 9 | 3 => 3 | 46 => 122 | 0 => 0 | 51 => 104 | 53 => 127 | 4 => 4 | 183 => 137 | 182 => 136 | 131 => 56 | 5 => 5 | 218 => 161 | 222 => 54 | 228 => 186 | 229 => 37 | n => n, fun | n => n⟩
set_option maxRecDepth 100000 in
theorem Tryz.lays190 : Go.Proofs.Lays.n190 Tryz.prog Tryz.lays190_ren where
  mixed := by kernel_rfl
  f125 := Tryz.func110.trans (congrArg some (by kernel_rfl))
  f128 := Tryz.func132.trans (congrArg some (by kernel_rfl))
  f129 := Tryz.func133.trans (congrArg some (by kernel_rfl))
  f190 := Tryz.func99.trans (congrArg some (by kernel_rfl))
  f258 := Tryz.func109.trans (congrArg some (by kernel_rfl))
  f302 := Tryz.func123.trans (congrArg some (by kernel_rfl))
  f303 := Tryz.func124.trans (congrArg some (by kernel_rfl))
  f304 := Tryz.func125.trans (congrArg some (by kernel_rfl))
  f305 := Tryz.func126.trans (congrArg some (by kernel_rfl))
  f306 := Tryz.func127.trans (congrArg some (by kernel_rfl))
  f307 := Tryz.func128.trans (congrArg some (by kernel_rfl))
  f308 := Tryz.func129.trans (congrArg some (by kernel_rfl))
  f309 := Tryz.func130.trans (congrArg some (by kernel_rfl))
  f310 := Tryz.func131.trans (congrArg some (by kernel_rfl))
  f329 := Tryz.func148.trans (congrArg some (by kernel_rfl))
  f330 := Tryz.func149.trans (congrArg some (by kernel_rfl))
  f333 := Tryz.func147.trans (congrArg some (by kernel_rfl))
  f334 := Tryz.func150.trans (congrArg some (by kernel_rfl))
  f335 := Tryz.func151.trans (congrArg some (by kernel_rfl))
  f336 := Tryz.func152.trans (congrArg some (by kernel_rfl))
  f344 := Tryz.func166.trans (congrArg some (by kernel_rfl))
  t0 := Tryz.underlying0
  a0 := Tryz.isAgg0
  z0 := Tryz.sizeOf0
  v0 := Tryz.zeroValue0
  t3 := Tryz.underlying3
  a3 := Tryz.isAgg3
  z3 := Tryz.sizeOf3
  v3 := Tryz.zeroValue3
  t4 := Tryz.underlying4
  a4 := Tryz.isAgg4
  z4 := Tryz.sizeOf4
  v4 := Tryz.zeroValue4
  t5 := Tryz.underlying5
  a5 := Tryz.isAgg5
  z5 := Tryz.sizeOf5
  v5 := Tryz.zeroValue5
  t9 := Tryz.underlying9
  a9 := Tryz.isAgg9
  z9 := Tryz.sizeOf9
  v9 := Tryz.zeroValue9
  t31 := Tryz.underlying22
  a31 := Tryz.isAgg22
  z31 := Tryz.sizeOf22
  v31 := Tryz.zeroValue22
  t46 := Tryz.underlying122
  a46 := Tryz.isAgg122
  z46 := Tryz.sizeOf122
  v46 := Tryz.zeroValue122
  t51 := Tryz.underlying104
  a51 := Tryz.isAgg104
  z51 := Tryz.sizeOf104
  v51 := Tryz.zeroValue104
  t53 := Tryz.underlying127
  a53 := Tryz.isAgg127
  z53 := Tryz.sizeOf127
  v53 := Tryz.zeroValue127
  t131 := Tryz.underlying56
  a131 := Tryz.isAgg56
  z131 := Tryz.sizeOf56
  v131 := Tryz.zeroValue56
  t182 := Tryz.underlying136
  a182 := Tryz.isAgg136
  z182 := Tryz.sizeOf136
  v182 := Tryz.zeroValue136
  t183 := Tryz.underlying137
  a183 := Tryz.isAgg137
  z183 := Tryz.sizeOf137
  v183 := Tryz.zeroValue137
  t218 := Tryz.underlying161
  a218 := Tryz.isAgg161
  z218 := Tryz.sizeOf161
  v218 := Tryz.zeroValue161
  t222 := Tryz.underlying54
  a222 := Tryz.isAgg54
  z222 := Tryz.sizeOf54
  v222 := Tryz.zeroValue54
  t228 := Tryz.underlying186
  a228 := Tryz.isAgg186
  z228 := Tryz.sizeOf186
  v228 := Tryz.zeroValue186
  t229 := Tryz.underlying37
  a229 := Tryz.isAgg37
  z229 := Tryz.sizeOf37
  v229 := Tryz.zeroValue37

end Go.Proofs

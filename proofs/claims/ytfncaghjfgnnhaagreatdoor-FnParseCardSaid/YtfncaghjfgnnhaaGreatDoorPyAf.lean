/-
  The program's reader of values: blanks, what stands there, what is wanted.
  The program's reader of values: texts.
  The reference's reader of values: blanks, what stands there, what is needed, words.
  The reference's reader of values: texts.
  From a walk's contract (no block of ours is written) to a contract of a call.
  Layouts of library functions at this program (printed by tools/lays.py).
  The library's Count, Join and Itoa as contracts of calls.
  Itoa's digits and Join's parts are the reference's.
  The program's reader of values: numbers.
  The reference's reader of values: numbers.
  The reference's reader of values: numbers, the whole.
-/
import Derived.Test.YtfncaghjfgnnhaaGreatDoorPyAe
import Derived.Shelf.Small.Strs
import Derived.Shelf.LaysM
import Derived.Shelf.Strings.OnBuilder
import Derived.Shelf.Strconv.Itoa3
import Derived.Shelf.Strings.Count
import Derived.Test.YtfncaghjfgnnhaaGreatDoorRows
import Derived.Lib.Join
import Derived.Lib.AtoiAllCases
namespace Go.Proofs.YtfncaghjfgnnhaaGreatDoor
open Go.RowKit
set_option maxRecDepth 100000
abbrev tRd : Nat := 64
abbrev fBlk : Nat := 79
abbrev fDgt : Nat := 100
abbrev fSkip : Nat := 48
abbrev fTake : Nat := 73
abbrev fWant : Nat := 97
abbrev fPfx : Nat := 95
def pos' (t s : List UInt8) : Nat := t.length - s.length
theorem pos_cons {t s : List UInt8} {c : UInt8} (h : (c :: s) <:+ t) : t.getD (pos' t (c :: s)) 0 = c ∧ pos' t (c :: s) + 1 = pos' t s ∧ pos' t (c :: s) < t.length := by
 obtain ⟨p, rfl⟩ := h
 unfold pos'
 have e : (p ++ c :: s).length - (c :: s).length = p.length := by simp
 rw [e]
 refine ⟨by simp, by simp only [List.length_append, List.length_cons]; omega, by simp⟩
theorem pos_nil (t : List UInt8) : pos' t [] = t.length := by simp [pos']
theorem drop_pos {t s : List UInt8} (h : s <:+ t) : t.drop (pos' t s) = s := by
 obtain ⟨p, rfl⟩ := h
 unfold pos'
 have e : (p ++ s).length - s.length = p.length := by simp
 rw [e, List.drop_left]
theorem pos_le {t s : List UInt8} (h : s <:+ t) : pos' t s + s.length = t.length := by
 have := h.length_le
 unfold pos'; omega
theorem suf_tail {t s : List UInt8} {c : UInt8} (h : (c :: s) <:+ t) : s <:+ t := (List.suffix_cons c s).trans h
theorem suf_drop {t s : List UInt8} (n : Nat) (h : s <:+ t) : s.drop n <:+ t := (List.drop_suffix n s).trans h
theorem pos_drop {t s : List UInt8} {n : Nat} (h : s <:+ t) (hn : n ≤ s.length) : pos' t (s.drop n) = pos' t s + n := by
 have := h.length_le
 unfold pos'; rw [List.length_drop]; omega
def rdI (t : List UInt8) (i : Int) (bad : Bool) (room : Int) : Option Blk := some ([.str t, .int .i64 i, .bool bad, .int .i64 room], tRd)
set_option maxRecDepth 100000 in
theorem iblankT (n : Int) : fnT E0 0 fBlk [.int .u8 n] [] = (
 bif n == 32 then .done (Ret.mk (.bool true) [] []) else bif n == 9 then .done (Ret.mk (.bool true) [] []) else bif n == 10 then .done (Ret.mk (.bool true) [] []) else .done (Ret.mk (.bool (n == 13)) [] []) : T _) := by kernel_rfl
def blkI (b : Int) : Bool := b == 32 || b == 9 || b == 10 || b == 13
theorem iblank_ok (n : Int) : FnOK Tryz.prog fBlk [.int .u8 n] [] ⟨.bool (blkI n), [], []⟩ := by
 refine fnOK_TL (E := E0) follows named (iblankT n) (by simp) ?_
 simp only [WP_cond, T.WP, beq_iff_eq, beq_eq_false_iff_ne, ne_eq]
 unfold blkI
 repeat' with_reducible first
  | intro h
  | apply And.intro
 all_goals first
  | (simp [*, RetLe]; done)
  | (exfalso; simp_all; done)
set_option maxRecDepth 100000 in
theorem idigitT (n : Int) : fnT E0 0 fDgt [.int .u8 n] [] = (
 bif decide (n ≥ 48) then .done (Ret.mk (.bool (decide (n ≤ 57))) [] []) else .done (Ret.mk (.bool false) [] []) : T _) := by kernel_rfl
def dgtI (b : Int) : Bool := decide (48 ≤ b) && decide (b ≤ 57)
theorem idigit_ok (n : Int) : FnOK Tryz.prog fDgt [.int .u8 n] [] ⟨.bool (dgtI n), [], []⟩ := by
 refine fnOK_TL (E := E0) follows named (idigitT n) (by simp) ?_
 simp only [WP_cond, T.WP, decide_eq_true_eq, decide_eq_false_iff_not]
 unfold dgtI
 refine ⟨fun h => ⟨?_, rfl, by simp⟩, fun h => ⟨?_, rfl, by simp⟩⟩
 ·simp [h]
 ·simp [h]
abbrev fPfx1 : Nat := 107
set_option maxRecDepth 100000 in
theorem ipfx1T (s p : List UInt8) : fnT E0 0 fPfx1 [.str s, .str p] [] = (
 bif decide ((↑s.length : Int) ≥ (↑p.length : Int)) then .need [(0 : Int) ≤ (↑p.length : Int) ∧ (↑p.length : Int) ≤ (↑s.length : Int)] (.done (Ret.mk (.bool (List.drop 0 (List.take (Int.toNat (↑p.length : Int)) s) == p)) [] [])) else .done
 (Ret.mk (.bool false) [] []) : T _) := by kernel_rfl
def pfx (p s : List UInt8) : Bool := s.take p.length == p
theorem pfx_len {p s : List UInt8} (h : pfx p s = true) : p.length ≤ s.length := by
 have := congrArg List.length (eq_of_beq h)
 rw [List.length_take] at this; omega
theorem ipfx1_ok (s p : List UInt8) : FnOK Tryz.prog fPfx1 [.str s, .str p] [] ⟨.bool (pfx p s), [], []⟩ := by
 refine fnOK_TL (E := E0) follows named (ipfx1T s p) (by simp) ?_
 simp only [WP_cond, T.WP, All, decide_eq_true_eq, decide_eq_false_iff_not, and_true]
 refine ⟨fun h => ⟨by omega, ?_, rfl, by simp⟩, fun h => ⟨?_, rfl, by simp⟩⟩
 ·simp only [Int.toNat_natCast]
  rfl
 ·refine congrArg V.bool ?_
  cases hp : pfx p s with
  | false => rfl
  | true => have := pfx_len hp; omega
noncomputable def resPx : ResT := fun f vs hp => match vs, hp with
 | [.str s, .str p], [] => bif Nat.beq f fPfx1 then some ⟨pfx p s, fun y => ⟨.bool y, [], []⟩⟩ else none
 | _, _ => none
set_option maxRecDepth 100000 in
theorem ipfxT (s p : List UInt8) : fnT { P := Tryz.prog, vw := vwA, res := resPx } 0 fPfx [.str s, .str p] [] = (
 .bind (pfx p s) fun y0 => .need [FnOK Tryz.prog 107 [.str s, .str p] [] (Ret.mk (.bool y0) [] [])] (.done (Ret.mk (.bool y0) [] [])) : T _) := (T.force_eq _).symm.trans (by kernel_rfl)
theorem ipfx_ok (s p : List UInt8) : FnOK Tryz.prog fPfx [.str s, .str p] [] ⟨.bool (pfx p s), [], []⟩ := by
 refine fnOK_TL (E := { P := Tryz.prog, vw := vwA, res := resPx }) follows named (ipfxT s p) (by simp) ?_
 simp only [T.WP, All, and_true]
 rintro y rfl
 exact ⟨ipfx1_ok s p, ⟨rfl, rfl, by simp⟩⟩
noncomputable def resSk : ResT := fun f vs hp => match vs, hp with
 | [.int _ n], [] => bif Nat.beq f fBlk then some ⟨blkI n, fun y => ⟨.bool y, [], []⟩⟩ else bif Nat.beq f fDgt then some ⟨dgtI n, fun y => ⟨.bool y, [], []⟩⟩ else none
 | [.str s, .str p], [] => bif Nat.beq f fPfx then some ⟨pfx p s, fun y => ⟨.bool y, [], []⟩⟩ else none
 | _, _ => none
noncomputable def ESk : Env := { P := Tryz.prog, vw := vwA, res := resSk }
def stSk (t : List UInt8) (i : Int) (bad : Bool) (room : Int) : St := ⟨mkTm 31 [(0, .ptr 0 0)], [rdI t i bad room], [0]⟩
def nfSk : Ex → Kp := fun ex => match ex with
 | .normal => { keep := [0], wr := [0] }
 | _ => { keep := [], wr := [0] }
--FOLD rdI
set_option maxRecDepth 100000 in
theorem skipL0 (t : List UInt8) (i : Int) (bad : Bool) (room : Int) : bodyT ESk 1 nfSk (lp Tryz.prog fSkip 0) (stSk t i bad room) = (
 bif decide (i < (↑t.length : Int)) then .need [0 ≤ i ∧ i < (↑t.length : Int)] (.bind (blkI (↑(UInt8.toNat (List.getD t (Int.toNat i) (0 : UInt8))) : Int)) fun y0 => .need [FnOK (Env.P ESk) 79 [.int .u8 (↑(UInt8.toNat (List.getD t (Int.toNat
 i) (0 : UInt8))) : Int)] [] (Ret.mk (.bool y0) [] [])] (bif y0 then .done (Ex.normal, St.mk (mkTm 31 [(0, .ptr 0 0)]) [rdI t (IntKind.wrap IntKind.i64 (i + 1)) bad room] [0]) else .done (Ex.exit 0, St.mk (mkTm 31 []) [rdI t i bad room]
 [0]))) else .done (Ex.exit 0, St.mk (mkTm 31 []) [rdI t i bad room] [0]) : T _) := by kernel_rfl
def blkC (c : UInt8) : Bool := blkI (c.toNat : Nat)
def skp (s : List UInt8) : List UInt8 := s.dropWhile blkC
theorem skp_suf {t s : List UInt8} (h : s <:+ t) : skp s <:+ t := (List.dropWhile_suffix _).trans h
theorem skip_loop {t : List UInt8} (ht : t.length ≤ 4294967296) (bad : Bool) (room : Int) : ∀ s : List UInt8, s <:+ t →
  LoopTo Tryz.prog 1 (lp Tryz.prog fSkip 0) (stSk t (pos' t s : Nat) bad room) (.exit 0) ⟨mkTm 31 [], [rdI t (pos' t (skp s) : Nat) bad room], [0]⟩
 | [], h => by
  refine loopT (E := ESk) follows named (skipL0 t (pos' t [] : Nat) bad room) ?_
  rw [pos_nil]
  simp only [WP_cond, T.WP, All, decide_eq_true_eq, decide_eq_false_iff_not, and_true]
  refine ⟨fun h => by omega, fun _ => ⟨rfl, ?_⟩⟩
  rw [show skp [] = [] from rfl, pos_nil]
 | c :: s, h => by
  refine loopT (E := ESk) follows named (skipL0 t (pos' t (c :: s) : Nat) bad room) ?_
  obtain ⟨h1, h2, h3⟩ := pos_cons h
  have ih := skip_loop ht bad room s (suf_tail h)
  simp only [WP_cond, T.WP, All, decide_eq_true_eq, decide_eq_false_iff_not, and_true, Int.toNat_natCast, h1]
  refine ⟨fun _ => ⟨by omega, ?_⟩, fun h => by omega⟩
  rintro y rfl
  refine ⟨iblank_ok _, fun hb => ?_, fun hb => ⟨rfl, ?_⟩⟩
  ·rw [wrap_succ (by omega), h2, show skp (c :: s) = skp s by unfold skp; rw [List.dropWhile_cons_of_pos (by exact hb)]]
   exact ih
  ·rw [show skp (c :: s) = c :: s by unfold skp; rw [List.dropWhile_cons_of_neg (by unfold blkC; rw [hb]; simp)]]
noncomputable def lsSk (t s : List UInt8) (bad : Bool) (room : Int) : Nat → St → Option LRes := fun id _ => match id with
 | 0 => some ⟨(), fun _ => .one { keep := [0], wr := [0] } (stSk t (pos' t s : Nat) bad room) (.exit 0) ⟨mkTm 31 [], [rdI t (pos' t (skp s) : Nat) bad room], [0]⟩⟩
 | _ => none
set_option maxRecDepth 100000 in
theorem iskipT (t s : List UInt8) (bad : Bool) (room : Int) : fnT { P := Tryz.prog, vw := vwA, res := res0, ls := lsSk t s bad room } 0 fSkip [.ptr 0 0] [rdI t (pos' t s : Nat) bad room] = (
 .bind PUnit.unit fun _ => .need [St.mk (mkTm 31 [(0, .ptr 0 0)]) [rdI t (↑(pos' t s) : Int) bad room] [0] = St.mk (mkTm 31 [(0, .ptr 0 0)]) [rdI t (↑(pos' t s) : Int) bad room] [0], SoundC Tryz.prog 1 (blk Tryz.prog fSkip 0) (St.mk (mkTm
 31 [(0, .ptr 0 0)]) [rdI t (↑(pos' t s) : Int) bad room] [0]) (Ex.exit 0) (St.mk (mkTm 31 []) [rdI t (↑(pos' t (skp s)) : Int) bad room] [0])] (.done (Ret.mk (.tup []) [rdI t (↑(pos' t (skp s)) : Int) bad room] [0])) : T _) := (T.force_eq _).symm.trans (by kernel_rfl)
theorem skip_ok {t s : List UInt8} (ht : t.length ≤ 4294967296) (h : s <:+ t) (bad : Bool) (room : Int) : FnOK Tryz.prog fSkip [.ptr 0 0] [rdI t (pos' t s : Nat) bad room] ⟨.tup [], [rdI t (pos' t (skp s) : Nat) bad room], [0]⟩ := by
 refine fnOK_TL (E := { P := Tryz.prog, vw := vwA, res := res0, ls := lsSk t s bad room }) follows named (iskipT t s bad room) (by simp) ?_
 simp only [T.WP, All, and_true]
 rintro - -
 exact ⟨⟨trivial, .loopTo (skip_loop ht bad room s h)⟩, ⟨rfl, rfl, by simp⟩⟩
def tkB (p s : List UInt8) (bad : Bool) : Bool := !bad && pfx p (skp s)
def tkS (p s : List UInt8) (bad : Bool) : List UInt8 := if tkB p s bad then (skp s).drop p.length else skp s
theorem tkS_suf {t s p : List UInt8} {bad : Bool} (h : s <:+ t) : tkS p s bad <:+ t := by
 unfold tkS; split
 ·exact suf_drop _ (skp_suf h)
 ·exact skp_suf h
noncomputable def resTk (t s : List UInt8) : ResT := fun f vs hp => match vs, hp with
 | [.ptr 0 0], [some ([.str _, .int _ _, .bool bad, .int _ room], _)] => bif Nat.beq f fSkip then some ⟨(), fun _ => ⟨.tup [], [rdI t (pos' t (skp s) : Nat) bad room], [0]⟩⟩ else none
 | [.str s, .str p], [] => bif Nat.beq f fPfx then some ⟨pfx p s, fun y => ⟨.bool y, [], []⟩⟩ else none
 | _, _ => none
set_option maxRecDepth 100000 in
theorem takeT (t s p : List UInt8) (bad : Bool) (room : Int) : fnT { P := Tryz.prog, vw := vwA, res := resTk t s } 0 fTake [.ptr 0 0, .str p] [rdI t (pos' t s : Nat) bad room] = (
 .bind PUnit.unit fun _ => .need [FnOK Tryz.prog 48 [.ptr 0 0] [rdI t (↑(pos' t s) : Int) bad room] (Ret.mk (.tup []) [rdI t (↑(pos' t (skp s)) : Int) bad room] [0])] (bif bad then .done (Ret.mk (.bool false) [rdI t (↑(pos' t (skp s)) :
 Int) bad room] [0]) else .need [(0 : Int) ≤ (↑(pos' t (skp s)) : Int) ∧ (↑(pos' t (skp s)) : Int) ≤ (↑t.length : Int)] (.bind (pfx p (List.drop (Int.toNat (↑(pos' t (skp s)) : Int)) (List.take t.length t))) fun y1 => .need [FnOK Tryz.prog
 95 [.str (List.drop (Int.toNat (↑(pos' t (skp s)) : Int)) (List.take t.length t)), .str p] [] (Ret.mk (.bool y1) [] [])] (bif !y1 then .done (Ret.mk (.bool false) [rdI t (↑(pos' t (skp s)) : Int) bad room] [0]) else .done (Ret.mk (.bool
 true) [rdI t (IntKind.wrap IntKind.i64 ((↑(pos' t (skp s)) : Int) + (↑p.length : Int))) bad room] [0])))) : T _) := (T.force_eq _).symm.trans (by kernel_rfl)
theorem take_ok {t s : List UInt8} (p : List UInt8) (ht : t.length ≤ 4294967296) (h : s <:+ t) (bad : Bool) (room : Int) : FnOK Tryz.prog fTake [.ptr 0 0, .str p] [rdI t (pos' t s : Nat) bad room] ⟨.bool (tkB p s bad), [rdI t (pos' t (tkS p s bad) : Nat) bad room], [0]⟩ := by
 refine fnOK_TL (E := { P := Tryz.prog, vw := vwA, res := resTk t s }) follows named (takeT t s p bad room) (by simp) ?_
 simp only [WP_cond, T.WP, All, and_true]
 rintro - -
 have hsuf := skp_suf h
 have hp := pos_le hsuf
 refine ⟨skip_ok ht h bad room, fun hb => ?_, fun hb => ⟨by omega, ?_⟩⟩
 ·have e : tkB p s bad = false := by unfold tkB; rw [hb]; rfl
  have e2 : tkS p s bad = skp s := by unfold tkS; rw [e]; rfl
  rw [e, e2]; exact ⟨rfl, rfl, by simp⟩
 ·rw [Int.toNat_natCast, List.take_of_length_le (Nat.le_refl _), drop_pos hsuf]
  rintro y rfl
  refine ⟨ipfx_ok _ _, fun hy => ?_, fun hy => ?_⟩
  ·have e : tkB p s bad = false := by unfold tkB; rw [show pfx p (skp s) = false by simpa using hy, Bool.and_false]
   have e2 : tkS p s bad = skp s := by unfold tkS; rw [e]; rfl
   rw [e, e2]; exact ⟨rfl, rfl, by simp⟩
  ·have hy' : pfx p (skp s) = true := by simpa using hy
   have e : tkB p s bad = true := by unfold tkB; rw [hy', hb]; rfl
   have e2 : tkS p s bad = (skp s).drop p.length := by unfold tkS; rw [e]; rfl
   have hl := pfx_len hy'
   rw [e, e2, pos_drop hsuf hl, ← Int.natCast_add, wrap_nat (by omega)]; exact ⟨rfl, rfl, by simp⟩
noncomputable def resWt (t s : List UInt8) : ResT := fun f vs hp => match vs, hp with
 | [.ptr 0 0, .str p], [some ([.str _, .int _ _, .bool bad, .int _ room], _)] => bif Nat.beq f fTake then some ⟨(), fun _ => ⟨.bool (tkB p s bad), [rdI t (pos' t (tkS p s bad) : Nat) bad room], [0]⟩⟩ else none
 | _, _ => none
set_option maxRecDepth 100000 in
theorem wantT (t s p : List UInt8) (bad : Bool) (room : Int) : fnT { P := Tryz.prog, vw := vwA, res := resWt t s } 0 fWant [.ptr 0 0, .str p] [rdI t (pos' t s : Nat) bad room] = (
 .bind PUnit.unit fun _ => .need [FnOK Tryz.prog 73 [.ptr 0 0, .str p] [rdI t (↑(pos' t s) : Int) bad room] (Ret.mk (.bool (tkB p s bad)) [rdI t (↑(pos' t (tkS p s bad)) : Int) bad room] [0])] (bif !tkB p s bad then .done (Ret.mk (.tup [])
 [rdI t (↑(pos' t (tkS p s bad)) : Int) true room] [0]) else .done (Ret.mk (.tup []) [rdI t (↑(pos' t (tkS p s bad)) : Int) bad room] [0])) : T _) := (T.force_eq _).symm.trans (by kernel_rfl)
theorem want_ok {t s : List UInt8} (p : List UInt8) (ht : t.length ≤ 4294967296) (h : s <:+ t) (bad : Bool) (room : Int) : FnOK Tryz.prog fWant [.ptr 0 0, .str p] [rdI t (pos' t s : Nat) bad room] ⟨.tup [], [rdI t (pos' t (tkS p s bad) : Nat) (!tkB p s bad) room], [0]⟩ := by
 refine fnOK_TL (E := { P := Tryz.prog, vw := vwA, res := resWt t s }) follows named (wantT t s p bad room) (by simp) ?_
 simp only [WP_cond, T.WP, All, and_true]
 rintro - -
 refine ⟨take_ok p ht h bad room, fun hb => ?_, fun hb => ?_⟩
 ·rw [hb]; exact ⟨rfl, rfl, by simp⟩
 ·rw [hb]
  have : tkB p s bad = true := by simpa using hb
  have hb2 : bad = false := by
   cases bad
   ·rfl
   ·simp [tkB] at this
  rw [hb2]; exact ⟨rfl, rfl, by simp⟩
end Go.Proofs.YtfncaghjfgnnhaaGreatDoor

namespace Go.Proofs.YtfncaghjfgnnhaaGreatDoor
open Go.RowKit
set_option maxRecDepth 100000
abbrev fText : Nat := 74
abbrev fIdxB : Nat := 96
abbrev tU8 : Nat := 5
def escC (d : UInt8) : Bool := d == 34 || d == 92 || d == 47
def txtR : List UInt8 → List UInt8 → Option (List UInt8 × Bool × List UInt8)
 | [], _ => none
 | [c], W => if c = 34 then some (W, !plainT W, []) else if c = 92 then some ([], true, []) else none
 | c :: d :: s, W =>
  if c = 34 then some (W, !plainT W, d :: s)
  else if c = 92 then (if escC d then txtR s (W ++ [d]) else some ([], true, d :: s))
  else txtR (d :: s) (W ++ [c])
theorem txtR_q (s W : List UInt8) : txtR (34 :: s) W = some (W, !plainT W, s) := by cases s <;> simp [txtR]
theorem txtR_e1 (W : List UInt8) : txtR [92] W = some ([], true, []) := by simp [txtR]
theorem txtR_e2 (d : UInt8) (s W : List UInt8) : txtR (92 :: d :: s) W = if escC d then txtR s (W ++ [d]) else some ([], true, d :: s) := by simp [txtR]
theorem txtR_o {c : UInt8} (s W : List UInt8) (h1 : c ≠ 34) (h2 : c ≠ 92) : txtR (c :: s) W = txtR s (W ++ [c]) := by cases s <;> simp [txtR, h1, h2]
def idxB (p : List UInt8) (n : Int) : Int := Lib.indexByte p n.toNat.toUInt8
noncomputable def resTx : ResT := fun f vs hp => match vs, hp with
 | [.str p, .int _ n], [] => bif Nat.beq f fIdxB then some ⟨idxB p n, fun y => ⟨.int .i64 y, [], []⟩⟩ else none
 | [.str t], [] => bif Nat.beq f fIsPlain then some ⟨plainT t, fun y => ⟨.bool y, [], []⟩⟩ else none
 | _, _ => none
noncomputable def ETx : Env := { P := Tryz.prog, vw := vwA, res := resTx }
def stTx (t : List UInt8) (i : Int) (bad : Bool) (room : Int) (W : List UInt8) (b : Bool) : St := ⟨mkTm 109 [(0, .ptr 0 0), (2, .str []), (3, .sl 1 0 W.length b)], [rdI t i bad room, some ([.sld (encs encByte W)], tU8)], [0]⟩
def nfTx : Ex → Kp := fun ex => match ex with
 | .normal => { keep := [0, 2, 3], wr := [0] }
 | .ret => { keep := [2], wr := [0] }
 | .exit _ => { keep := [0], wr := [0] }
--FOLD rdI
set_option maxRecDepth 100000 in
theorem textL0 (t : List UInt8) (i : Int) (bad : Bool) (room : Int) (W : List UInt8) (b : Bool) : bodyT ETx 1 nfTx (lp Tryz.prog fText 0) (stTx t i bad room W b) = (
 bif !bad then bif decide (i < (↑t.length : Int)) then .need [0 ≤ i ∧ i < (↑t.length : Int)] (bif (↑(UInt8.toNat (List.getD t (Int.toNat i) (0 : UInt8))) : Int) == 34 then bif bad then .need [encs encByte W = byts (decL encByte (encs encByte
 W)), 0 = 0, List.length (decL encByte (encs encByte W) ++ []) = W.length] (.done (Ex.ret, St.mk (mkTm 109 [(2, .str (decL encByte (encs encByte W) ++ []))]) [rdI t (IntKind.wrap IntKind.i64 (i + 1)) true room] [0])) else .need [encs encByte
 W = byts (decL encByte (encs encByte W)), 0 = 0, List.length (decL encByte (encs encByte W) ++ []) = W.length] (.bind (plainT (decL encByte (encs encByte W) ++ [])) fun y0 => .need [FnOK (Env.P ETx) 89 [.str (decL encByte (encs encByte W)
 ++ [])] [] (Ret.mk (.bool y0) [] [])] (.need [encs encByte W = byts (decL encByte (encs encByte W)), 0 = 0, List.length (decL encByte (encs encByte W) ++ []) = W.length] (.done (Ex.ret, St.mk (mkTm 109 [(2, .str (decL encByte (encs encByte
 W) ++ []))]) [rdI t (IntKind.wrap IntKind.i64 (i + 1)) (!y0) room] [0])))) else bif (↑(UInt8.toNat (List.getD t (Int.toNat i) (0 : UInt8))) : Int) == 92 then bif IntKind.wrap IntKind.i64 (i + 1) == (↑t.length : Int) then .done (Ex.ret,
 St.mk (mkTm 109 [(2, .str [])]) [rdI t (IntKind.wrap IntKind.i64 (i + 1)) true room] [0]) else .need [0 ≤ IntKind.wrap IntKind.i64 (i + 1) ∧ IntKind.wrap IntKind.i64 (i + 1) < (↑t.length : Int)] (.bind (idxB [(34 : UInt8), 92, 47]
 (↑(UInt8.toNat (List.getD t (Int.toNat (IntKind.wrap IntKind.i64 (i + 1))) (0 : UInt8))) : Int)) fun y1 => .need [FnOK (Env.P ETx) 96 [.str [34, 92, 47], .int .u8 (↑(UInt8.toNat (List.getD t (Int.toNat (IntKind.wrap IntKind.i64 (i + 1))) (0
 : UInt8))) : Int)] [] (Ret.mk (.int .i64 y1) [] [])] (bif decide (y1 < 0) then .done (Ex.ret, St.mk (mkTm 109 [(2, .str [])]) [rdI t (IntKind.wrap IntKind.i64 (i + 1)) true room] [0]) else .need [0 ≤ IntKind.wrap IntKind.i64 (i + 1) ∧
 IntKind.wrap IntKind.i64 (i + 1) < (↑t.length : Int)] (.need [0 = 0, List.length (encs encByte W) = W.length * 1, W.length + 1 ≤ 9223372036854775807, (W.length + 1) * 1 ≤ 140737488355328] (.done (Ex.normal, St.mk (mkTm 109 [(0, .ptr 0 0),
 (2, .str []), (3, .sl 1 0 (W.length + 1) false)]) [rdI t (IntKind.wrap IntKind.i64 (IntKind.wrap IntKind.i64 (i + 1) + 1)) bad room, some ([.sld (encs encByte W ++ [.int .u8 (↑(UInt8.toNat (List.getD t (Int.toNat (IntKind.wrap IntKind.i64
 (i + 1))) (0 : UInt8))) : Int)])], 5)] [0]))))) else .need [0 = 0, List.length (encs encByte W) = W.length * 1, W.length + 1 ≤ 9223372036854775807, (W.length + 1) * 1 ≤ 140737488355328] (.done (Ex.normal, St.mk (mkTm 109 [(0, .ptr 0 0), (2,
 .str []), (3, .sl 1 0 (W.length + 1) false)]) [rdI t (IntKind.wrap IntKind.i64 (i + 1)) bad room, some ([.sld (encs encByte W ++ [.int .u8 (↑(UInt8.toNat (List.getD t (Int.toNat i) (0 : UInt8))) : Int)])], 5)] [0]))) else .done (Ex.exit 0,
 St.mk (mkTm 109 [(0, .ptr 0 0)]) [rdI t i bad room] [0]) else .done (Ex.exit 0, St.mk (mkTm 109 [(0, .ptr 0 0)]) [rdI t i bad room] [0]) : T _) := by kernel_rfl
theorem idx_esc (d : UInt8) : decide (idxB [34, 92, 47] ((d.toNat : Nat) : Int) < 0) = !escC d := by
 have e : ((d.toNat : Nat) : Int).toNat.toUInt8 = d := by rw [Int.toNat_natCast]; exact UInt8.ofNat_toNat
 unfold idxB
 rw [e]
 unfold escC
 by_cases h0 : d = 34
 ·subst h0; rfl
 ·by_cases h1 : d = 92
  ·subst h1; rfl
  ·by_cases h2 : d = 47
   ·subst h2; rfl
   ·have a0 : (34 == d) = false := beq_eq_false_iff_ne.2 (fun e => h0 e.symm)
    have a1 : (92 == d) = false := beq_eq_false_iff_ne.2 (fun e => h1 e.symm)
    have a2 : (47 == d) = false := beq_eq_false_iff_ne.2 (fun e => h2 e.symm)
    simp [Lib.indexByte, a0, a1, a2, h0, h1, h2]
theorem u8_eq (c : UInt8) (n : Nat) (hn : n < 256) : (((c.toNat : Nat) : Int) == (n : Int)) = (c == UInt8.ofNat n) := by
 rw [Bool.eq_iff_iff, beq_iff_eq, beq_iff_eq, ← UInt8.toNat_inj, UInt8.toNat_ofNat']
 omega
def IdxB : Prop := ∀ (p : List UInt8) (c : UInt8), FnOK Tryz.prog fIdxB [.str p, .int .u8 (c.toNat : Nat)] [] ⟨.int .i64 (idxB p (c.toNat : Nat)), [], []⟩
theorem text_loop (hI : IdxB) {t : List UInt8} (ht : t.length ≤ 1048576) (room : Int) : ∀ (n : Nat) (s : List UInt8) (W : List UInt8) (b : Bool), s.length ≤ n → s <:+ t → W.length + s.length ≤ t.length →
  match txtR s W with
  | none => LoopTo Tryz.prog 1 (lp Tryz.prog fText 0) (stTx t (pos' t s : Nat) false room W b) (.exit 0) ⟨mkTm 109 [(0, .ptr 0 0)], [rdI t (pos' t [] : Nat) false room], [0]⟩
  | some (r, bad, s') => LoopTo Tryz.prog 1 (lp Tryz.prog fText 0) (stTx t (pos' t s : Nat) false room W b) .ret ⟨mkTm 109 [(2, .str r)], [rdI t (pos' t s' : Nat) bad room], [0]⟩
 | n, [], W, b, _, h, hW => by
  rw [show txtR [] W = none from rfl]
  refine loopT (E := ETx) follows named (textL0 t (pos' t [] : Nat) false room W b) ?_
  rw [pos_nil]
  simp only [WP_cond, T.WP, All, decide_eq_true_eq, decide_eq_false_iff_not, and_true, beq_iff_eq, beq_eq_false_iff_ne, ne_eq]
  refine ⟨fun _ => ⟨fun h => by omega, fun _ => ⟨rfl, rfl⟩⟩, fun h => by simp at h⟩
 | n + 1, c :: s, W, b, hn, h, hW => by
  obtain ⟨h1, h2, h3⟩ := pos_cons h
  simp only [List.length_cons] at hn hW
  have hplain := isPlain_ok W (by omega)
  have hl := layByte.decL W
  have hb := byts_encs W
  have hlen := layByte.length W
  have c34 := u8_eq c 34 (by omega)
  have c92 := u8_eq c 92 (by omega)
  have w1 : IntKind.i64.wrap (((pos' t (c :: s) : Nat) : Int) + 1) = (pos' t s : Nat) := by rw [wrap_succ (by omega), h2]
  have tree := textL0 t (pos' t (c :: s) : Nat) false room W b
  simp only [Int.toNat_natCast, h1, hl, List.append_nil, w1] at tree
  by_cases e1 : c = 34
  ·subst e1
   rw [txtR_q]
   refine loopT (E := ETx) follows named tree ?_
   simp only [WP_cond, T.WP, All, decide_eq_true_eq, decide_eq_false_iff_not, and_true, beq_iff_eq, beq_eq_false_iff_ne, ne_eq]
   refine ⟨fun _ => ⟨fun _ => ⟨by omega, fun _ => ⟨fun h => by simp at h, fun _ => ⟨hb.symm, ?_⟩⟩, fun h => absurd rfl h⟩, fun h => by omega⟩, fun h => by simp at h⟩
   rintro y rfl
   exact ⟨hplain, hb.symm, rfl, rfl⟩
  ·have n34 : ¬ ((c.toNat : Nat) : Int) = 34 := fun e => e1 (by simpa [e] using c34)
   by_cases e2 : c = 92
   ·subst e2
    cases s with
    | nil =>
     rw [txtR_e1]
     refine loopT (E := ETx) follows named tree ?_
     rw [pos_nil]
     simp only [WP_cond, T.WP, All, decide_eq_true_eq, decide_eq_false_iff_not, and_true, beq_iff_eq, beq_eq_false_iff_ne, ne_eq]
     exact ⟨fun _ => ⟨fun _ => ⟨by omega, fun h => absurd h n34, fun _ => ⟨fun _ => ⟨fun _ => ⟨rfl, rfl⟩, fun h => absurd trivial h⟩, fun h => absurd rfl h⟩⟩, fun h => by omega⟩, fun h => by simp at h⟩
    | cons d s =>
     obtain ⟨g1, g2, g3⟩ := pos_cons (suf_tail h)
     have w2 : IntKind.i64.wrap (((pos' t (d :: s) : Nat) : Int) + 1) = (pos' t s : Nat) := by rw [wrap_succ (by omega), g2]
     simp only [g1, w2] at tree
     simp only [List.length_cons] at hn hW
     have hx := idx_esc d
     rw [txtR_e2]
     have ih := text_loop hI ht room n s (W ++ [d]) false (by omega) (suf_tail (suf_tail h)) (by simp; omega)
     have main : ∀ Q : Ex × St → Prop, (escC d = true → Q (.normal, stTx t (pos' t s : Nat) false room (W ++ [d]) false)) → (escC d = false → Q (.ret, ⟨mkTm 109 [(2, .str [])], [rdI t (pos' t (d :: s) : Nat) true room], [0]⟩)) → (bodyT ETx 1 nfTx (lp Tryz.prog fText 0) (stTx t (pos' t (92 :: d :: s) : Nat) false room W b)).WP Q := by
      intro Q q1 q2
      rw [tree]
      simp only [WP_cond, T.WP, All, decide_eq_true_eq, decide_eq_false_iff_not, and_true, beq_iff_eq, beq_eq_false_iff_ne, ne_eq]
      refine ⟨fun _ => ⟨fun _ => ⟨by omega, fun h => absurd h n34, fun _ => ⟨fun _ => ⟨fun h => by omega, fun _ => ⟨by omega, ?_⟩⟩, fun h => absurd rfl h⟩⟩, fun h => by omega⟩, fun h => by simp at h⟩
      rintro y rfl
      refine ⟨hI _ d, fun hy => q2 ?_, fun hy => ⟨by omega, ⟨trivial, hlen, by omega, by omega⟩, ?_⟩⟩
      ·rw [decide_eq_true hy] at hx; simpa using hx
      ·have := q1 (by rw [decide_eq_false hy] at hx; simpa using hx)
       unfold stTx at this
       rw [encs_snoc, List.length_append] at this
       exact this
     by_cases he : escC d = true
     ·rw [if_pos he]
      have := main (· = (.normal, stTx t (pos' t s : Nat) false room (W ++ [d]) false)) (fun _ => rfl) (fun h => by rw [he] at h; cases h)
      cases hr : txtR s (W ++ [d]) with
      | none => rw [hr] at ih; exact .step (soundT follows named rfl this) ih
      | some r => rw [hr] at ih; exact .step (soundT follows named rfl this) ih
     ·rw [if_neg he]
      have := main (· = (.ret, ⟨mkTm 109 [(2, .str [])], [rdI t (pos' t (d :: s) : Nat) true room], [0]⟩)) (fun h => absurd h he) (fun _ => rfl)
      exact .done (soundT follows named rfl this) (by simp)
   ·have n92 : ¬ ((c.toNat : Nat) : Int) = 92 := fun e => e2 (by simpa [e] using c92)
    rw [txtR_o s W e1 e2]
    have ih := text_loop hI ht room n s (W ++ [c]) false (by omega) (suf_tail h) (by simp; omega)
    have main : (bodyT ETx 1 nfTx (lp Tryz.prog fText 0) (stTx t (pos' t (c :: s) : Nat) false room W b)).WP (· = (.normal, stTx t (pos' t s : Nat) false room (W ++ [c]) false)) := by
     rw [tree]
     simp only [WP_cond, T.WP, All, decide_eq_true_eq, decide_eq_false_iff_not, and_true, beq_iff_eq, beq_eq_false_iff_ne, ne_eq]
     refine ⟨fun _ => ⟨fun _ => ⟨by omega, fun h => absurd h n34, fun _ => ⟨fun h => absurd h n92, fun _ => ⟨⟨trivial, hlen, by omega, by omega⟩, ?_⟩⟩⟩, fun h => by omega⟩, fun h => by simp at h⟩
     unfold stTx
     rw [encs_snoc, List.length_append]
     rfl
    cases hr : txtR s (W ++ [c]) with
    | none => rw [hr] at ih; exact .step (soundT follows named rfl main) ih
    | some r => rw [hr] at ih; exact .step (soundT follows named rfl main) ih
def txtE (bad : Bool) (s : List UInt8) : List UInt8 × Bool × List UInt8 := bif bad then ([], true, s) else (txtR s []).getD ([], true, [])
def txtN (bad : Bool) (s : List UInt8) : Bool := bad || (txtR s []).isNone
noncomputable def lsTx (t s : List UInt8) (bad : Bool) (room : Int) : Nat → St → Option LRes := fun id _ => match id with
 | 0 => some ⟨(), fun _ => .two { keep := [0, 2, 3], wr := [0] } (stTx t (pos' t s : Nat) bad room [] true) (txtN bad s) (.exit 0) ⟨mkTm 109 [(0, .ptr 0 0)], [rdI t (pos' t (txtE bad s).2.2 : Nat) bad room], [0]⟩ .ret ⟨mkTm 109 [(2, .str (txtE bad s).1)], [rdI t (pos' t (txtE bad s).2.2 : Nat) (txtE bad s).2.1 room], [0]⟩⟩
 | _ => none
set_option maxRecDepth 100000 in
theorem textT (t s : List UInt8) (bad : Bool) (room : Int) : fnT { P := Tryz.prog, vw := vwA, res := res0, ls := lsTx t s bad room } 0 fText [.ptr 0 0] [rdI t (pos' t s : Nat) bad room] = (
 .bind PUnit.unit fun _ => .need [St.mk (mkTm 109 [(0, .ptr 0 0), (2, .str []), (3, .sl 1 0 0 true)]) [rdI t (↑(pos' t s) : Int) bad room, some ([.sld []], 5)] [0] = St.mk (mkTm 109 [(0, .ptr 0 0), (2, .str []), (3, .sl 1 0 0 true)]) [rdI t
 (↑(pos' t s) : Int) bad room, some ([.sld []], 5)] [0]] (bif txtN bad s then .need [SoundC Tryz.prog 1 (blk Tryz.prog fText 0) (St.mk (mkTm 109 [(0, .ptr 0 0), (2, .str []), (3, .sl 1 0 0 true)]) [rdI t (↑(pos' t s) : Int) bad room, some
 ([.sld []], 5)] [0]) (Ex.exit 0) (St.mk (mkTm 109 [(0, .ptr 0 0)]) [rdI t (↑(pos' t (Prod.snd (Prod.snd (txtE bad s)))) : Int) bad room] [0])] (.done (Ret.mk (.str []) [rdI t (↑(pos' t (Prod.snd (Prod.snd (txtE bad s)))) : Int) true room]
 [0])) else .need [SoundC Tryz.prog 1 (blk Tryz.prog fText 0) (St.mk (mkTm 109 [(0, .ptr 0 0), (2, .str []), (3, .sl 1 0 0 true)]) [rdI t (↑(pos' t s) : Int) bad room, some ([.sld []], 5)] [0]) Ex.ret (St.mk (mkTm 109 [(2, .str (Prod.fst
 (txtE bad s)))]) [rdI t (↑(pos' t (Prod.snd (Prod.snd (txtE bad s)))) : Int) (Prod.fst (Prod.snd (txtE bad s))) room] [0])] (.done (Ret.mk (.str (Prod.fst (txtE bad s))) [rdI t (↑(pos' t (Prod.snd (Prod.snd (txtE bad s)))) : Int) (Prod.fst
 (Prod.snd (txtE bad s))) room] [0]))) : T _) := (T.force_eq _).symm.trans (by kernel_rfl)
theorem text_ok (hI : IdxB) {t s : List UInt8} (ht : t.length ≤ 1048576) (h : s <:+ t) (bad : Bool) (room : Int) : FnOK Tryz.prog fText [.ptr 0 0] [rdI t (pos' t s : Nat) bad room] ⟨.str (txtE bad s).1, [rdI t (pos' t (txtE bad s).2.2 : Nat) (txtE bad s).2.1 room], [0]⟩ := by
 refine fnOK_TL (E := { P := Tryz.prog, vw := vwA, res := res0, ls := lsTx t s bad room }) follows named (textT t s bad room) (by simp) ?_
 simp only [WP_cond, T.WP, All, and_true]
 have hl := text_loop hI ht room s.length s [] true (Nat.le_refl _) h (by have := h.length_le; simpa using this)
 rintro - -
 refine ⟨trivial, ?_⟩
 cases bad with
 | true =>
  have hd : LoopTo Tryz.prog 1 (lp Tryz.prog fText 0) (stTx t (pos' t s : Nat) true room [] true) (.exit 0) ⟨mkTm 109 [(0, .ptr 0 0)], [rdI t (pos' t s : Nat) true room], [0]⟩ := by
   refine loopT (E := ETx) follows named (textL0 t (pos' t s : Nat) true room [] true) ?_
   simp only [WP_cond, T.WP, All, decide_eq_true_eq, decide_eq_false_iff_not, and_true, beq_iff_eq, beq_eq_false_iff_ne, ne_eq]
   exact ⟨fun h => by simp at h, fun _ => ⟨rfl, rfl⟩⟩
  exact ⟨fun _ => ⟨.loopTo hd, ⟨rfl, rfl, by simp⟩⟩, fun h => by simp [txtN] at h⟩
 | false =>
  cases hr : txtR s [] with
  | none =>
   rw [hr] at hl
   have e : txtE false s = ([], true, []) := by simp [txtE, hr]
   rw [e]
   exact ⟨fun _ => ⟨.loopTo hl, ⟨rfl, rfl, by simp⟩⟩, fun h => by simp [txtN, hr] at h⟩
  | some r =>
   rw [hr] at hl
   have e : txtE false s = r := by simp [txtE, hr]
   rw [e]
   exact ⟨fun h => by simp [txtN, hr] at h, fun _ => ⟨.loopTo hl, ⟨rfl, rfl, by simp⟩⟩⟩
theorem txtR_suf : ∀ (n : Nat) (s W : List UInt8) (r : List UInt8 × Bool × List UInt8), s.length ≤ n → txtR s W = some r → r.2.2 <:+ s
 | _, [], W, r, _, h => by cases h
 | n + 1, c :: s, W, r, hn, h => by
  simp only [List.length_cons] at hn
  by_cases e1 : c = 34
  ·subst e1; rw [txtR_q] at h; cases h; exact List.suffix_cons _ _
  ·by_cases e2 : c = 92
   ·subst e2
    cases s with
    | nil => rw [txtR_e1] at h; cases h; exact List.nil_suffix
    | cons d s =>
     rw [txtR_e2] at h
     split at h
     ·exact (txtR_suf n s _ r (by simp only [List.length_cons] at hn; omega) h).trans ((List.suffix_cons _ _).trans (List.suffix_cons _ _))
     ·cases h; exact List.suffix_cons _ _
   ·rw [txtR_o s W e1 e2] at h
    exact (txtR_suf n s _ r (by omega) h).trans (List.suffix_cons _ _)
theorem txtE_suf (bad : Bool) (s : List UInt8) : (txtE bad s).2.2 <:+ s := by
 unfold txtE
 cases bad with
 | true => exact List.suffix_refl _
 | false =>
  cases hr : txtR s [] with
  | none => exact List.nil_suffix
  | some r => exact txtR_suf _ s [] r (Nat.le_refl _) hr
end Go.Proofs.YtfncaghjfgnnhaaGreatDoor

namespace Go.Proofs.YtfncaghjfgnnhaaGreatDoor
open Go.RowKit
set_option maxRecDepth 100000
abbrev tSRd : Nat := 61
abbrev fSBlk : Nat := 46
abbrev fSTake : Nat := 68
abbrev fSNeed : Nat := 92
abbrev fSWord : Nat := 67
abbrev fSDgt : Nat := 93
def sdI (t : List UInt8) (i n : Int) (ok : Bool) : Option Blk := some ([.str t, .int .i64 i, .int .i64 n, .bool ok], tSRd)
set_option maxRecDepth 100000 in
theorem sdigitT (n : Int) : fnT E0 0 fSDgt [.int .u8 n] [] = (
 bif decide (n ≥ 48) then .done (Ret.mk (.bool (decide (n ≤ 57))) [] []) else .done (Ret.mk (.bool false) [] []) : T _) := by kernel_rfl
theorem sdigit_ok (n : Int) : FnOK Tryz.prog fSDgt [.int .u8 n] [] ⟨.bool (dgtI n), [], []⟩ := by
 refine fnOK_TL (E := E0) follows named (sdigitT n) (by simp) ?_
 simp only [WP_cond, T.WP, decide_eq_true_eq, decide_eq_false_iff_not]
 unfold dgtI
 refine ⟨fun h => ⟨?_, rfl, by simp⟩, fun h => ⟨?_, rfl, by simp⟩⟩
 ·simp [h]
 ·simp [h]
def stSB (t : List UInt8) (i n : Int) (ok : Bool) : St := ⟨mkTm 67 [(0, .ptr 0 0)], [sdI t i n ok], [0]⟩
--FOLD sdI
set_option maxRecDepth 100000 in
theorem sblkL0 (t : List UInt8) (i n : Int) (ok : Bool) : bodyT E0 1 nfSk (lp Tryz.prog fSBlk 0) (stSB t i n ok) = (
 bif decide (i < (↑t.length : Int)) then .need [0 ≤ i ∧ i < (↑t.length : Int)] (bif (↑(UInt8.toNat (List.getD t (Int.toNat i) (0 : UInt8))) : Int) == 32 then .done (Ex.normal, St.mk (mkTm 67 [(0, .ptr 0 0)]) [sdI t (IntKind.wrap IntKind.i64
 (i + 1)) n ok] [0]) else .need [0 ≤ i ∧ i < (↑t.length : Int)] (bif (↑(UInt8.toNat (List.getD t (Int.toNat i) (0 : UInt8))) : Int) == 9 then .done (Ex.normal, St.mk (mkTm 67 [(0, .ptr 0 0)]) [sdI t (IntKind.wrap IntKind.i64 (i + 1)) n ok]
 [0]) else .need [0 ≤ i ∧ i < (↑t.length : Int)] (bif (↑(UInt8.toNat (List.getD t (Int.toNat i) (0 : UInt8))) : Int) == 10 then .done (Ex.normal, St.mk (mkTm 67 [(0, .ptr 0 0)]) [sdI t (IntKind.wrap IntKind.i64 (i + 1)) n ok] [0]) else .need
 [0 ≤ i ∧ i < (↑t.length : Int)] (bif (↑(UInt8.toNat (List.getD t (Int.toNat i) (0 : UInt8))) : Int) == 13 then .done (Ex.normal, St.mk (mkTm 67 [(0, .ptr 0 0)]) [sdI t (IntKind.wrap IntKind.i64 (i + 1)) n ok] [0]) else .done (Ex.exit 0,
 St.mk (mkTm 67 []) [sdI t i n ok] [0]))))) else .done (Ex.exit 0, St.mk (mkTm 67 []) [sdI t i n ok] [0]) : T _) := by kernel_rfl
theorem sblk_loop {t : List UInt8} (ht : t.length ≤ 4294967296) (n : Int) (ok : Bool) : ∀ s : List UInt8, s <:+ t →
  LoopTo Tryz.prog 1 (lp Tryz.prog fSBlk 0) (stSB t (pos' t s : Nat) n ok) (.exit 0) ⟨mkTm 67 [], [sdI t (pos' t (skp s) : Nat) n ok], [0]⟩
 | [], h => by
  refine loopT (E := E0) follows named (sblkL0 t (pos' t [] : Nat) n ok) ?_
  rw [pos_nil]
  simp only [WP_cond, T.WP, All, decide_eq_true_eq, decide_eq_false_iff_not, and_true, beq_iff_eq, beq_eq_false_iff_ne, ne_eq]
  refine ⟨fun h => by omega, fun _ => ⟨rfl, ?_⟩⟩
  rw [show skp [] = [] from rfl, pos_nil]
 | c :: s, h => by
  obtain ⟨h1, h2, h3⟩ := pos_cons h
  have ih := sblk_loop ht n ok s (suf_tail h)
  have w1 : IntKind.i64.wrap (((pos' t (c :: s) : Nat) : Int) + 1) = (pos' t s : Nat) := by rw [wrap_succ (by omega), h2]
  have tree := sblkL0 t (pos' t (c :: s) : Nat) n ok
  simp only [Int.toNat_natCast, h1, w1] at tree
  have on : blkC c = true → skp (c :: s) = skp s := fun h => by unfold skp; rw [List.dropWhile_cons_of_pos h]
  have off : blkC c = false → skp (c :: s) = c :: s := fun h => by unfold skp; rw [List.dropWhile_cons_of_neg (by rw [h]; simp)]
  cases hb : blkC c with
  | true =>
   rw [on hb]
   unfold blkC blkI at hb
   simp only [Bool.or_eq_true, beq_iff_eq] at hb
   refine loopT (E := E0) follows named tree ?_
   simp only [WP_cond, T.WP, All, decide_eq_true_eq, decide_eq_false_iff_not, and_true, beq_iff_eq, beq_eq_false_iff_ne, ne_eq]
   repeat' with_reducible first | intro _ | apply And.intro
   all_goals first | exact ih | omega
  | false =>
   rw [off hb]
   unfold blkC blkI at hb
   simp only [Bool.or_eq_false_iff, beq_eq_false_iff_ne] at hb
   refine loopT (E := E0) follows named tree ?_
   simp only [WP_cond, T.WP, All, decide_eq_true_eq, decide_eq_false_iff_not, and_true, beq_iff_eq, beq_eq_false_iff_ne, ne_eq]
   repeat' with_reducible first | intro _ | apply And.intro
   all_goals first | omega | exact ⟨rfl, rfl⟩ | rfl
noncomputable def lsSB (t s : List UInt8) (n : Int) (ok : Bool) : Nat → St → Option LRes := fun id _ => match id with
 | 0 => some ⟨(), fun _ => .one { keep := [0], wr := [0] } (stSB t (pos' t s : Nat) n ok) (.exit 0) ⟨mkTm 67 [], [sdI t (pos' t (skp s) : Nat) n ok], [0]⟩⟩
 | _ => none
set_option maxRecDepth 100000 in
theorem sblkT (t s : List UInt8) (n : Int) (ok : Bool) : fnT { P := Tryz.prog, vw := vwA, res := res0, ls := lsSB t s n ok } 0 fSBlk [.ptr 0 0] [sdI t (pos' t s : Nat) n ok] = (
 .bind PUnit.unit fun _ => .need [St.mk (mkTm 67 [(0, .ptr 0 0)]) [sdI t (↑(pos' t s) : Int) n ok] [0] = St.mk (mkTm 67 [(0, .ptr 0 0)]) [sdI t (↑(pos' t s) : Int) n ok] [0], SoundC Tryz.prog 1 (blk Tryz.prog fSBlk 0) (St.mk (mkTm 67 [(0,
 .ptr 0 0)]) [sdI t (↑(pos' t s) : Int) n ok] [0]) (Ex.exit 0) (St.mk (mkTm 67 []) [sdI t (↑(pos' t (skp s)) : Int) n ok] [0])] (.done (Ret.mk (.tup []) [sdI t (↑(pos' t (skp s)) : Int) n ok] [0])) : T _) := (T.force_eq _).symm.trans (by kernel_rfl)
theorem sblk_ok {t s : List UInt8} (ht : t.length ≤ 4294967296) (h : s <:+ t) (n : Int) (ok : Bool) : FnOK Tryz.prog fSBlk [.ptr 0 0] [sdI t (pos' t s : Nat) n ok] ⟨.tup [], [sdI t (pos' t (skp s) : Nat) n ok], [0]⟩ := by
 refine fnOK_TL (E := { P := Tryz.prog, vw := vwA, res := res0, ls := lsSB t s n ok }) follows named (sblkT t s n ok) (by simp) ?_
 simp only [T.WP, All, and_true]
 rintro - -
 exact ⟨⟨trivial, .loopTo (sblk_loop ht n ok s h)⟩, ⟨rfl, rfl, by simp⟩⟩
structure SS where
 s : List UInt8
 n : Int
 ok : Bool
def ssB (t : List UInt8) (x : SS) : Option Blk := sdI t (pos' t x.s : Nat) x.n x.ok
def hdB (b : UInt8) (s : List UInt8) : Bool := match skp s with
 | [] => false
 | c :: _ => c == b
def hdS (b : UInt8) (s : List UInt8) : List UInt8 := bif hdB b s then (skp s).drop 1 else skp s
theorem hdS_suf {t s : List UInt8} (b : UInt8) (h : s <:+ t) : hdS b s <:+ t := by
 unfold hdS
 cases hdB b s with
 | true => exact suf_drop _ (skp_suf h)
 | false => exact skp_suf h
noncomputable def resST : ResT := fun f vs hp => match vs, hp with
 | [.ptr 0 0], [some ([.str t, .int _ i, .int _ n, .bool ok], _)] => bif Nat.beq f fSBlk then some ⟨(), fun _ => ⟨.tup [], [sdI t (pos' t (skp (t.drop i.toNat)) : Nat) n ok], [0]⟩⟩ else none
 | _, _ => none
--FOLD ssB
set_option maxRecDepth 100000 in
theorem stakeT (t : List UInt8) (i n : Int) (ok : Bool) (b : Int) : fnT { P := Tryz.prog, vw := vwA, res := resST } 0 fSTake [.ptr 0 0, .int .u8 b] [sdI t i n ok] = (
 .bind PUnit.unit fun _ => .need [FnOK Tryz.prog 46 [.ptr 0 0] [sdI t i n ok] (Ret.mk (.tup []) [sdI t (↑(pos' t (skp (List.drop (Int.toNat i) t))) : Int) n ok] [0])] (bif decide ((↑(pos' t (skp (List.drop (Int.toNat i) t))) : Int) <
 (↑t.length : Int)) then .need [(0 : Int) ≤ (↑(pos' t (skp (List.drop (Int.toNat i) t))) : Int) ∧ (↑(pos' t (skp (List.drop (Int.toNat i) t))) : Int) < (↑t.length : Int)] (bif (↑(UInt8.toNat (List.getD t (Int.toNat (↑(pos' t (skp (List.drop
 (Int.toNat i) t))) : Int)) (0 : UInt8))) : Int) == b then .done (Ret.mk (.bool true) [sdI t (IntKind.wrap IntKind.i64 ((↑(pos' t (skp (List.drop (Int.toNat i) t))) : Int) + 1)) n ok] [0]) else .done (Ret.mk (.bool false) [sdI t (↑(pos' t
 (skp (List.drop (Int.toNat i) t))) : Int) n ok] [0])) else .done (Ret.mk (.bool false) [sdI t (↑(pos' t (skp (List.drop (Int.toNat i) t))) : Int) n ok] [0])) : T _) := (T.force_eq _).symm.trans (by kernel_rfl)
theorem stake_ok {t s : List UInt8} (b : UInt8) (ht : t.length ≤ 4294967296) (h : s <:+ t) (n : Int) (ok : Bool) : FnOK Tryz.prog fSTake [.ptr 0 0, .int .u8 (b.toNat : Nat)] [sdI t (pos' t s : Nat) n ok] ⟨.bool (hdB b s), [sdI t (pos' t (hdS b s) : Nat) n ok], [0]⟩ := by
 refine fnOK_TL (E := { P := Tryz.prog, vw := vwA, res := resST }) follows named (stakeT t (pos' t s : Nat) n ok (b.toNat : Nat)) (by simp) ?_
 simp only [WP_cond, T.WP, All, decide_eq_true_eq, decide_eq_false_iff_not, and_true, beq_iff_eq, beq_eq_false_iff_ne, ne_eq, Int.toNat_natCast, drop_pos h]
 rintro - -
 refine ⟨sblk_ok ht h n ok, ?_⟩
 have hs := skp_suf h
 unfold hdS hdB
 cases hk : skp s with
 | nil =>
  rw [pos_nil]
  exact ⟨fun h => by omega, fun _ => ⟨rfl, rfl, by simp⟩⟩
 | cons c s' =>
  rw [hk] at hs
  obtain ⟨h1, h2, h3⟩ := pos_cons hs
  rw [h1]
  have eb : (((c.toNat : Nat) : Int) = ((b.toNat : Nat) : Int)) ↔ c = b := by rw [← UInt8.toNat_inj]; omega
  refine ⟨fun _ => ⟨by omega, fun e => ?_, fun e => ?_⟩, fun h => by omega⟩
  ·have : (c == b) = true := beq_iff_eq.2 (eb.1 e)
   simp only [this, cond_true, List.drop_succ_cons, List.drop_zero]
   rw [wrap_succ (by omega), h2]; exact ⟨rfl, rfl, by simp⟩
  ·have : (c == b) = false := beq_eq_false_iff_ne.2 (fun e' => e (eb.2 e'))
   simp only [this, cond_false]; exact ⟨rfl, rfl, by simp⟩
noncomputable def resSN : ResT := fun f vs hp => match vs, hp with
 | [.ptr 0 0, .int _ b], [some ([.str t, .int _ i, .int _ n, .bool ok], _)] => bif Nat.beq f fSTake then some ⟨(hdB (UInt8.ofNat b.toNat) (t.drop i.toNat), hdS (UInt8.ofNat b.toNat) (t.drop i.toNat)), fun y => ⟨.bool y.1, [sdI t (pos' t y.2 : Nat) n ok], [0]⟩⟩ else none
 | _, _ => none
set_option maxRecDepth 100000 in
theorem sneedT (t : List UInt8) (i n : Int) (ok : Bool) (b : Int) : fnT { P := Tryz.prog, vw := vwA, res := resSN } 0 fSNeed [.ptr 0 0, .int .u8 b] [sdI t i n ok] = (
 .bind (hdB (UInt8.ofNat (Int.toNat b)) (List.drop (Int.toNat i) t), hdS (UInt8.ofNat (Int.toNat b)) (List.drop (Int.toNat i) t)) fun y0 => .need [FnOK Tryz.prog 68 [.ptr 0 0, .int .u8 b] [sdI t i n ok] (Ret.mk (.bool y0.1) [sdI t (↑(pos' t
 y0.2) : Int) n ok] [0])] (bif y0.1 then .done (Ret.mk (.tup []) [sdI t (↑(pos' t y0.2) : Int) n ok] [0]) else .done (Ret.mk (.tup []) [sdI t (↑(pos' t y0.2) : Int) n false] [0])) : T _) := (T.force_eq _).symm.trans (by kernel_rfl)
theorem sneed_ok {t s : List UInt8} (b : UInt8) (ht : t.length ≤ 4294967296) (h : s <:+ t) (n : Int) (ok : Bool) : FnOK Tryz.prog fSNeed [.ptr 0 0, .int .u8 (b.toNat : Nat)] [sdI t (pos' t s : Nat) n ok] ⟨.tup [], [sdI t (pos' t (hdS b s) : Nat) n (hdB b s && ok)], [0]⟩ := by
 refine fnOK_TL (E := { P := Tryz.prog, vw := vwA, res := resSN }) follows named (sneedT t (pos' t s : Nat) n ok (b.toNat : Nat)) (by simp) ?_
 simp only [WP_cond, T.WP, All, and_true, Int.toNat_natCast, UInt8.ofNat_toNat, drop_pos h]
 rintro y rfl
 refine ⟨stake_ok b ht h n ok, fun e => ?_, fun e => ?_⟩
 ·simp only at e; rw [e]; exact ⟨rfl, rfl, by simp⟩
 ·simp only at e; rw [e]; exact ⟨rfl, rfl, by simp⟩
set_option maxRecDepth 100000 in
theorem swordT (t : List UInt8) (i n : Int) (ok : Bool) (p : List UInt8) : fnT E0 0 fSWord [.ptr 0 0, .str p] [sdI t i n ok] = (
 bif decide (IntKind.wrap IntKind.i64 ((↑t.length : Int) - i) ≥ (↑p.length : Int)) then .need [0 ≤ IntKind.wrap IntKind.i64 (i + (↑p.length : Int)) ∧ IntKind.wrap IntKind.i64 (i + (↑p.length : Int)) ≤ (↑t.length : Int), 0 ≤ i ∧ i ≤
 (↑(Int.toNat (IntKind.wrap IntKind.i64 (i + (↑p.length : Int)))) : Int)] (bif List.drop (Int.toNat i) (List.take (Int.toNat (IntKind.wrap IntKind.i64 (i + (↑p.length : Int)))) t) == p then .done (Ret.mk (.bool true) [sdI t (IntKind.wrap
 IntKind.i64 (i + (↑p.length : Int))) n ok] [0]) else .done (Ret.mk (.bool false) [sdI t i n ok] [])) else .done (Ret.mk (.bool false) [sdI t i n ok] []) : T _) := by kernel_rfl
def wdS (p s : List UInt8) : List UInt8 := bif pfx p s then s.drop p.length else s
theorem sword_ok {t s : List UInt8} (p : List UInt8) (ht : t.length ≤ 4294967296) (hp : p.length ≤ 1000) (h : s <:+ t) (n : Int) (ok : Bool) : FnOK Tryz.prog fSWord [.ptr 0 0, .str p] [sdI t (pos' t s : Nat) n ok] ⟨.bool (pfx p s), [sdI t (pos' t (wdS p s) : Nat) n ok], [0]⟩ := by
 refine fnOK_TL (E := E0) follows named (swordT t (pos' t s : Nat) n ok p) (by simp) ?_
 have hl := pos_le h
 have e1 : IntKind.i64.wrap ((t.length : Int) - ((pos' t s : Nat) : Int)) = (s.length : Nat) := by rw [wrap_id (by omega)]; omega
 have e2 : IntKind.i64.wrap (((pos' t s : Nat) : Int) + (p.length : Int)) = ((pos' t s + p.length : Nat) : Int) := by rw [wrap_id (by omega)]; omega
 simp only [WP_cond, T.WP, All, decide_eq_true_eq, decide_eq_false_iff_not, and_true, beq_iff_eq, beq_eq_false_iff_ne, ne_eq, e1, e2, Int.toNat_natCast]
 have e3 : (t.take (pos' t s + p.length)).drop (pos' t s) = s.take p.length := by
  rw [List.drop_take, drop_pos h, Nat.add_sub_cancel_left]
 rw [e3]
 unfold wdS
 refine ⟨fun h1 => ⟨by omega, fun h2 => ?_, fun h2 => ?_⟩, fun h1 => ?_⟩
 ·have e : pfx p s = true := beq_iff_eq.2 h2
  rw [e, cond_true, pos_drop h (by omega)]; exact ⟨rfl, rfl, by simp⟩
 ·have e : pfx p s = false := beq_eq_false_iff_ne.2 h2
  rw [e]; exact ⟨rfl, rfl, by simp⟩
 ·have e : pfx p s = false := by
   cases hp : pfx p s with
   | false => rfl
   | true => have := pfx_len hp; omega
  rw [e]; exact ⟨rfl, rfl, by simp⟩
end Go.Proofs.YtfncaghjfgnnhaaGreatDoor

namespace Go.Proofs.YtfncaghjfgnnhaaGreatDoor
open Go.RowKit
set_option maxRecDepth 100000
abbrev fSText : Nat := 69
def stxR : List UInt8 → List UInt8 → List UInt8 × Bool × List UInt8
 | [], _ => ([], false, [])
 | [c], W => bif decide (200 < W.length) then ([], false, [c]) else if c = 34 then (W, true, []) else ([], false, [])
 | c :: d :: s, W =>
  bif decide (200 < W.length) then ([], false, c :: d :: s)
  else if c = 34 then (W, true, d :: s)
  else if c = 92 then (if escC d then stxR s (W ++ [d]) else ([], false, d :: s))
  else stxR (d :: s) (W ++ [c])
theorem stxR_long {W : List UInt8} (c : UInt8) (s : List UInt8) (h : 200 < W.length) : stxR (c :: s) W = ([], false, c :: s) := by cases s <;> simp [stxR, h]
theorem stxR_q {W : List UInt8} (s : List UInt8) (h : ¬ 200 < W.length) : stxR (34 :: s) W = (W, true, s) := by cases s <;> simp [stxR, h]
theorem stxR_e1 {W : List UInt8} (h : ¬ 200 < W.length) : stxR [92] W = ([], false, []) := by simp [stxR, h]
theorem stxR_e2 {W : List UInt8} (d : UInt8) (s : List UInt8) (h : ¬ 200 < W.length) : stxR (92 :: d :: s) W = if escC d then stxR s (W ++ [d]) else ([], false, d :: s) := by simp [stxR, h]
theorem stxR_o {W : List UInt8} {c : UInt8} (s : List UInt8) (h : ¬ 200 < W.length) (h1 : c ≠ 34) (h2 : c ≠ 92) : stxR (c :: s) W = stxR s (W ++ [c]) := by
 cases s with
 | nil => simp [stxR, h, h1]
 | cons d s => simp [stxR, h, h1, h2]
def stSx (t : List UInt8) (i n : Int) (ok : Bool) (W : List UInt8) (b : Bool) : St := ⟨mkTm 119 [(0, .ptr 0 0), (2, .str []), (3, .sl 1 0 W.length b)], [sdI t i n ok, some ([.sld (encs encByte W)], tU8)], [0]⟩
--FOLD sdI
set_option maxRecDepth 100000 in
theorem stextL0 (t : List UInt8) (i n : Int) (ok : Bool) (W : List UInt8) (b : Bool) : bodyT E0 1 nfTx (lp Tryz.prog fSText 0) (stSx t i n ok W b) = (
 bif ok then bif decide (i ≥ (↑t.length : Int)) then .done (Ex.ret, St.mk (mkTm 119 [(2, .str [])]) [sdI t i n false] [0]) else bif decide ((↑W.length : Int) > 200) then .done (Ex.ret, St.mk (mkTm 119 [(2, .str [])]) [sdI t i n false] [0])
 else .need [0 ≤ i ∧ i < (↑t.length : Int)] (bif (↑(UInt8.toNat (List.getD t (Int.toNat i) (0 : UInt8))) : Int) == 34 then .need [encs encByte W = byts (decL encByte (encs encByte W)), 0 = 0, List.length (decL encByte (encs encByte W) ++ [])
 = W.length] (.done (Ex.ret, St.mk (mkTm 119 [(2, .str (decL encByte (encs encByte W) ++ []))]) [sdI t (IntKind.wrap IntKind.i64 (i + 1)) n ok] [0])) else bif (↑(UInt8.toNat (List.getD t (Int.toNat i) (0 : UInt8))) : Int) == 92 then bif
 decide (IntKind.wrap IntKind.i64 (i + 1) ≥ (↑t.length : Int)) then .done (Ex.ret, St.mk (mkTm 119 [(2, .str [])]) [sdI t (IntKind.wrap IntKind.i64 (i + 1)) n false] [0]) else .need [0 ≤ IntKind.wrap IntKind.i64 (i + 1) ∧ IntKind.wrap
 IntKind.i64 (i + 1) < (↑t.length : Int)] (bif (↑(UInt8.toNat (List.getD t (Int.toNat (IntKind.wrap IntKind.i64 (i + 1))) (0 : UInt8))) : Int) != 34 then .need [0 ≤ IntKind.wrap IntKind.i64 (i + 1) ∧ IntKind.wrap IntKind.i64 (i + 1) <
 (↑t.length : Int)] (bif (↑(UInt8.toNat (List.getD t (Int.toNat (IntKind.wrap IntKind.i64 (i + 1))) (0 : UInt8))) : Int) != 92 then .need [0 ≤ IntKind.wrap IntKind.i64 (i + 1) ∧ IntKind.wrap IntKind.i64 (i + 1) < (↑t.length : Int)] (bif
 (↑(UInt8.toNat (List.getD t (Int.toNat (IntKind.wrap IntKind.i64 (i + 1))) (0 : UInt8))) : Int) != 47 then .done (Ex.ret, St.mk (mkTm 119 [(2, .str [])]) [sdI t (IntKind.wrap IntKind.i64 (i + 1)) n false] [0]) else .need [0 ≤ IntKind.wrap
 IntKind.i64 (i + 1) ∧ IntKind.wrap IntKind.i64 (i + 1) < (↑t.length : Int)] (.need [0 = 0, List.length (encs encByte W) = W.length * 1, W.length + 1 ≤ 9223372036854775807, (W.length + 1) * 1 ≤ 140737488355328] (.done (Ex.normal, St.mk (mkTm
 119 [(0, .ptr 0 0), (2, .str []), (3, .sl 1 0 (W.length + 1) false)]) [sdI t (IntKind.wrap IntKind.i64 (IntKind.wrap IntKind.i64 (i + 1) + 1)) n ok, some ([.sld (encs encByte W ++ [.int .u8 (↑(UInt8.toNat (List.getD t (Int.toNat
 (IntKind.wrap IntKind.i64 (i + 1))) (0 : UInt8))) : Int)])], 5)] [0])))) else .need [0 ≤ IntKind.wrap IntKind.i64 (i + 1) ∧ IntKind.wrap IntKind.i64 (i + 1) < (↑t.length : Int)] (.need [0 = 0, List.length (encs encByte W) = W.length * 1,
 W.length + 1 ≤ 9223372036854775807, (W.length + 1) * 1 ≤ 140737488355328] (.done (Ex.normal, St.mk (mkTm 119 [(0, .ptr 0 0), (2, .str []), (3, .sl 1 0 (W.length + 1) false)]) [sdI t (IntKind.wrap IntKind.i64 (IntKind.wrap IntKind.i64 (i +
 1) + 1)) n ok, some ([.sld (encs encByte W ++ [.int .u8 (↑(UInt8.toNat (List.getD t (Int.toNat (IntKind.wrap IntKind.i64 (i + 1))) (0 : UInt8))) : Int)])], 5)] [0])))) else .need [0 ≤ IntKind.wrap IntKind.i64 (i + 1) ∧ IntKind.wrap
 IntKind.i64 (i + 1) < (↑t.length : Int)] (.need [0 = 0, List.length (encs encByte W) = W.length * 1, W.length + 1 ≤ 9223372036854775807, (W.length + 1) * 1 ≤ 140737488355328] (.done (Ex.normal, St.mk (mkTm 119 [(0, .ptr 0 0), (2, .str []),
 (3, .sl 1 0 (W.length + 1) false)]) [sdI t (IntKind.wrap IntKind.i64 (IntKind.wrap IntKind.i64 (i + 1) + 1)) n ok, some ([.sld (encs encByte W ++ [.int .u8 (↑(UInt8.toNat (List.getD t (Int.toNat (IntKind.wrap IntKind.i64 (i + 1))) (0 :
 UInt8))) : Int)])], 5)] [0])))) else .need [0 = 0, List.length (encs encByte W) = W.length * 1, W.length + 1 ≤ 9223372036854775807, (W.length + 1) * 1 ≤ 140737488355328] (.done (Ex.normal, St.mk (mkTm 119 [(0, .ptr 0 0), (2, .str []), (3,
 .sl 1 0 (W.length + 1) false)]) [sdI t (IntKind.wrap IntKind.i64 (i + 1)) n ok, some ([.sld (encs encByte W ++ [.int .u8 (↑(UInt8.toNat (List.getD t (Int.toNat i) (0 : UInt8))) : Int)])], 5)] [0]))) else .done (Ex.exit 0, St.mk (mkTm 119
 [(0, .ptr 0 0)]) [sdI t i n ok] [0]) : T _) := by kernel_rfl
theorem esc_int (d : UInt8) : escC d = (((d.toNat : Nat) : Int) == 34 || ((d.toNat : Nat) : Int) == 92 || ((d.toNat : Nat) : Int) == 47) := by
 have a := u8_eq d 34 (by omega)
 have b := u8_eq d 92 (by omega)
 have c := u8_eq d 47 (by omega)
 show (d == UInt8.ofNat 34 || d == UInt8.ofNat 92 || d == UInt8.ofNat 47) = _
 rw [← a, ← b, ← c]
 rfl
theorem stext_loop {t : List UInt8} (ht : t.length ≤ 1048576) (n : Int) : ∀ (k : Nat) (s : List UInt8) (W : List UInt8) (b : Bool), s.length ≤ k → s <:+ t → W.length + s.length ≤ t.length →
  LoopTo Tryz.prog 1 (lp Tryz.prog fSText 0) (stSx t (pos' t s : Nat) n true W b) .ret ⟨mkTm 119 [(2, .str (stxR s W).1)], [sdI t (pos' t (stxR s W).2.2 : Nat) n (stxR s W).2.1], [0]⟩
 | k, [], W, b, _, h, hW => by
  rw [show stxR [] W = ([], false, []) from rfl]
  refine loopT (E := E0) follows named (stextL0 t (pos' t [] : Nat) n true W b) ?_
  rw [pos_nil]
  simp only [WP_cond, T.WP, All, decide_eq_true_eq, decide_eq_false_iff_not, and_true, beq_iff_eq, beq_eq_false_iff_ne, ne_eq]
  exact ⟨fun _ => ⟨fun _ => ⟨rfl, rfl⟩, fun h => by omega⟩, fun h => by simp at h⟩
 | k + 1, c :: s, W, b, hn, h, hW => by
  obtain ⟨h1, h2, h3⟩ := pos_cons h
  simp only [List.length_cons] at hn hW
  have hl := layByte.decL W
  have hb := byts_encs W
  have hlen := layByte.length W
  have c34 := u8_eq c 34 (by omega)
  have c92 := u8_eq c 92 (by omega)
  have w1 : IntKind.i64.wrap (((pos' t (c :: s) : Nat) : Int) + 1) = (pos' t s : Nat) := by rw [wrap_succ (by omega), h2]
  have tree := stextL0 t (pos' t (c :: s) : Nat) n true W b
  simp only [Int.toNat_natCast, h1, hl, List.append_nil, w1] at tree
  by_cases hlong : 200 < W.length
  ·rw [stxR_long c s hlong]
   refine loopT (E := E0) follows named tree ?_
   simp only [WP_cond, T.WP, All, decide_eq_true_eq, decide_eq_false_iff_not, and_true, beq_iff_eq, beq_eq_false_iff_ne, ne_eq]
   exact ⟨fun _ => ⟨fun h => by omega, fun _ => ⟨fun _ => ⟨rfl, rfl⟩, fun h => by omega⟩⟩, fun h => by simp at h⟩
  by_cases e1 : c = 34
  ·subst e1
   rw [stxR_q s hlong]
   refine loopT (E := E0) follows named tree ?_
   simp only [WP_cond, T.WP, All, decide_eq_true_eq, decide_eq_false_iff_not, and_true, beq_iff_eq, beq_eq_false_iff_ne, ne_eq]
   refine ⟨fun _ => ⟨fun h => by omega, fun _ => ⟨fun h => by omega, fun _ => ⟨by omega, fun _ => ⟨hb.symm, rfl, rfl⟩, fun h => absurd rfl h⟩⟩⟩, fun h => by simp at h⟩
  ·have n34 : ¬ ((c.toNat : Nat) : Int) = 34 := fun e => e1 (by simpa [e] using c34)
   by_cases e2 : c = 92
   ·subst e2
    cases s with
    | nil =>
     rw [stxR_e1 hlong]
     refine loopT (E := E0) follows named tree ?_
     rw [pos_nil]
     simp only [WP_cond, T.WP, All, decide_eq_true_eq, decide_eq_false_iff_not, and_true, beq_iff_eq, beq_eq_false_iff_ne, ne_eq]
     exact ⟨fun _ => ⟨fun h => by omega, fun _ => ⟨fun h => by omega, fun _ => ⟨by omega, fun h => absurd h n34, fun _ => ⟨fun _ => ⟨fun _ => ⟨rfl, rfl⟩, fun h => by omega⟩, fun h => absurd rfl h⟩⟩⟩⟩, fun h => by simp at h⟩
    | cons d s =>
     obtain ⟨g1, g2, g3⟩ := pos_cons (suf_tail h)
     have w2 : IntKind.i64.wrap (((pos' t (d :: s) : Nat) : Int) + 1) = (pos' t s : Nat) := by rw [wrap_succ (by omega), g2]
     simp only [g1, w2] at tree
     simp only [List.length_cons] at hn hW
     rw [stxR_e2 d s hlong]
     have ih := stext_loop ht n k s (W ++ [d]) false (by omega) (suf_tail (suf_tail h)) (by simp; omega)
     have d34 := u8_eq d 34 (by omega)
     have d92 := u8_eq d 92 (by omega)
     have d47 := u8_eq d 47 (by omega)
     have fin : ∀ Q : Ex × St → Prop, Q (.normal, stSx t (pos' t s : Nat) n true (W ++ [d]) false) → (True ∧ (encs encByte W).length = W.length * 1 ∧ W.length + 1 ≤ 9223372036854775807 ∧ (W.length + 1) * 1 ≤ 140737488355328) ∧ Q (.normal, ⟨mkTm 119 [(0, .ptr 0 0), (2, .str []), (3, .sl 1 0 (W.length + 1) false)], [sdI t (pos' t s : Nat) n true, some ([.sld (encs encByte W ++ [.int .u8 (d.toNat : Nat)])], tU8)], [0]⟩) := by
      intro Q hQ
      refine ⟨⟨trivial, hlen, by omega, by omega⟩, ?_⟩
      unfold stSx at hQ
      rw [encs_snoc, List.length_append] at hQ
      exact hQ
     have main : ∀ Q : Ex × St → Prop, (escC d = true → Q (.normal, stSx t (pos' t s : Nat) n true (W ++ [d]) false)) → (escC d = false → Q (.ret, ⟨mkTm 119 [(2, .str [])], [sdI t (pos' t (d :: s) : Nat) n false], [0]⟩)) → (bodyT E0 1 nfTx (lp Tryz.prog fSText 0) (stSx t (pos' t (92 :: d :: s) : Nat) n true W b)).WP Q := by
      intro Q q1 q2
      rw [tree]
      simp only [WP_cond, T.WP, All, decide_eq_true_eq, decide_eq_false_iff_not, and_true, beq_iff_eq, beq_eq_false_iff_ne, ne_eq]
      refine ⟨fun _ => ⟨fun h => by omega, fun _ => ⟨fun h => by omega, fun _ => ⟨by omega, fun h => absurd h n34, fun _ => ⟨fun _ => ⟨fun h => by omega, fun _ => ⟨by omega, ?_⟩⟩, fun h => absurd rfl h⟩⟩⟩⟩, fun h => by simp at h⟩
      refine ⟨fun x34 => ⟨by omega, fun x92 => ⟨by omega, fun x47 => q2 ?_, fun x47 => ⟨by omega, fin Q (q1 ?_)⟩⟩, fun x92 => ⟨by omega, fin Q (q1 ?_)⟩⟩, fun x34 => ⟨by omega, fin Q (q1 ?_)⟩⟩
      ·rw [esc_int]; simp only [bne_iff_ne, ne_eq] at x34 x92 x47; simp [x34, x92, x47]
      ·rw [esc_int]; simp only [bne_eq_false_iff_eq] at x47; simp [x47]
      ·rw [esc_int]; simp only [bne_eq_false_iff_eq] at x92; simp [x92]
      ·rw [esc_int]; simp only [bne_eq_false_iff_eq] at x34; simp [x34]
     by_cases he : escC d = true
     ·rw [if_pos he]
      have := main (· = (.normal, stSx t (pos' t s : Nat) n true (W ++ [d]) false)) (fun _ => rfl) (fun h => by rw [he] at h; cases h)
      exact .step (soundT follows named rfl this) ih
     ·rw [if_neg he]
      have := main (· = (.ret, ⟨mkTm 119 [(2, .str [])], [sdI t (pos' t (d :: s) : Nat) n false], [0]⟩)) (fun h => absurd h he) (fun _ => rfl)
      exact .done (soundT follows named rfl this) (by simp)
   ·have n92 : ¬ ((c.toNat : Nat) : Int) = 92 := fun e => e2 (by simpa [e] using c92)
    rw [stxR_o s hlong e1 e2]
    have ih := stext_loop ht n k s (W ++ [c]) false (by omega) (suf_tail h) (by simp; omega)
    have main : (bodyT E0 1 nfTx (lp Tryz.prog fSText 0) (stSx t (pos' t (c :: s) : Nat) n true W b)).WP (· = (.normal, stSx t (pos' t s : Nat) n true (W ++ [c]) false)) := by
     rw [tree]
     simp only [WP_cond, T.WP, All, decide_eq_true_eq, decide_eq_false_iff_not, and_true, beq_iff_eq, beq_eq_false_iff_ne, ne_eq]
     refine ⟨fun _ => ⟨fun h => by omega, fun _ => ⟨fun h => by omega, fun _ => ⟨by omega, fun h => absurd h n34, fun _ => ⟨fun h => absurd h n92, fun _ => ⟨⟨trivial, hlen, by omega, by omega⟩, ?_⟩⟩⟩⟩⟩, fun h => by simp at h⟩
     unfold stSx
     rw [encs_snoc, List.length_append]
     rfl
    exact .step (soundT follows named rfl main) ih
def stxE (ok : Bool) (s : List UInt8) : List UInt8 × Bool × List UInt8 := bif ok then stxR s [] else ([], false, s)
noncomputable def lsSx (t s : List UInt8) (n : Int) (ok : Bool) : Nat → St → Option LRes := fun id _ => match id with
 | 0 => some ⟨(), fun _ => .two { keep := [0, 2, 3], wr := [0] } (stSx t (pos' t s : Nat) n ok [] true) ok .ret ⟨mkTm 119 [(2, .str (stxR s []).1)], [sdI t (pos' t (stxR s []).2.2 : Nat) n (stxR s []).2.1], [0]⟩ (.exit 0) ⟨mkTm 119 [(0, .ptr 0 0)], [sdI t (pos' t s : Nat) n ok], [0]⟩⟩
 | _ => none
set_option maxRecDepth 100000 in
theorem stextT (t s : List UInt8) (n : Int) (ok : Bool) : fnT { P := Tryz.prog, vw := vwA, res := res0, ls := lsSx t s n ok } 0 fSText [.ptr 0 0] [sdI t (pos' t s : Nat) n ok] = (
 .bind PUnit.unit fun _ => .need [St.mk (mkTm 119 [(0, .ptr 0 0), (2, .str []), (3, .sl 1 0 0 true)]) [sdI t (↑(pos' t s) : Int) n ok, some ([.sld []], 5)] [0] = St.mk (mkTm 119 [(0, .ptr 0 0), (2, .str []), (3, .sl 1 0 0 true)]) [sdI t
 (↑(pos' t s) : Int) n ok, some ([.sld []], 5)] [0]] (bif ok then .need [SoundC Tryz.prog 1 (blk Tryz.prog fSText 0) (St.mk (mkTm 119 [(0, .ptr 0 0), (2, .str []), (3, .sl 1 0 0 true)]) [sdI t (↑(pos' t s) : Int) n ok, some ([.sld []], 5)]
 [0]) Ex.ret (St.mk (mkTm 119 [(2, .str (Prod.fst (stxR s [])))]) [sdI t (↑(pos' t (Prod.snd (Prod.snd (stxR s [])))) : Int) n (Prod.fst (Prod.snd (stxR s [])))] [0])] (.done (Ret.mk (.str (Prod.fst (stxR s []))) [sdI t (↑(pos' t (Prod.snd
 (Prod.snd (stxR s [])))) : Int) n (Prod.fst (Prod.snd (stxR s [])))] [0])) else .need [SoundC Tryz.prog 1 (blk Tryz.prog fSText 0) (St.mk (mkTm 119 [(0, .ptr 0 0), (2, .str []), (3, .sl 1 0 0 true)]) [sdI t (↑(pos' t s) : Int) n ok, some
 ([.sld []], 5)] [0]) (Ex.exit 0) (St.mk (mkTm 119 [(0, .ptr 0 0)]) [sdI t (↑(pos' t s) : Int) n ok] [0])] (.done (Ret.mk (.str []) [sdI t (↑(pos' t s) : Int) n ok] [0]))) : T _) := (T.force_eq _).symm.trans (by kernel_rfl)
theorem stext_ok {t s : List UInt8} (ht : t.length ≤ 1048576) (h : s <:+ t) (n : Int) (ok : Bool) : FnOK Tryz.prog fSText [.ptr 0 0] [sdI t (pos' t s : Nat) n ok] ⟨.str (stxE ok s).1, [sdI t (pos' t (stxE ok s).2.2 : Nat) n (stxE ok s).2.1], [0]⟩ := by
 refine fnOK_TL (E := { P := Tryz.prog, vw := vwA, res := res0, ls := lsSx t s n ok }) follows named (stextT t s n ok) (by simp) ?_
 simp only [WP_cond, T.WP, All, and_true]
 have hl := stext_loop ht n s.length s [] true (Nat.le_refl _) h (by have := h.length_le; simpa using this)
 rintro - -
 refine ⟨trivial, fun h1 => ?_, fun h1 => ?_⟩
 ·subst h1; exact ⟨.loopTo hl, ⟨rfl, rfl, by simp⟩⟩
 ·subst h1
  have hd : LoopTo Tryz.prog 1 (lp Tryz.prog fSText 0) (stSx t (pos' t s : Nat) n false [] true) (.exit 0) ⟨mkTm 119 [(0, .ptr 0 0)], [sdI t (pos' t s : Nat) n false], [0]⟩ := by
   refine loopT (E := E0) follows named (stextL0 t (pos' t s : Nat) n false [] true) ?_
   simp only [WP_cond, T.WP, All, decide_eq_true_eq, decide_eq_false_iff_not, and_true, beq_iff_eq, beq_eq_false_iff_ne, ne_eq]
   exact ⟨fun h => by simp at h, fun _ => ⟨rfl, rfl⟩⟩
  exact ⟨.loopTo hd, ⟨rfl, rfl, by simp⟩⟩
end Go.Proofs.YtfncaghjfgnnhaaGreatDoor

namespace Go.Proofs.YtfncaghjfgnnhaaGreatDoor
open Go.RowKit
set_option maxRecDepth 100000
theorem Evo.ofGrown {I : Nat → Prop} {w w' : World} {X : Nat → Prop} (h : w.grownBy w' none) (_ : ∀ k, I k → k < w.heap.size) : Evo I w w' X := by
 have hb : ∀ k, k < w.heap.size → w'.heap[k]? = w.heap[k]? := fun k hk => h.block k hk (by simp)
 refine ⟨h.os, h.tape, h.output, h.size, fun k hk _ => hb k hk, fun k s hs => ?_, fun k hk hl => hb k hl⟩
 unfold World.shape? at hs ⊢
 have hk : k < w.heap.size := by
  rcases Nat.lt_or_ge k w.heap.size with h | h
  ·exact h
  ·rw [Array.getElem?_eq_none h] at hs; cases hs
 rw [hb k hk]; exact hs
theorem FnOK.ofCalls {P : Program} {f : FuncId} {vs : List V} {v : V}
  (h : ∀ (I : Nat → Prop) (w : World) (vals : Array Value), V.RL P I noMu w vs vals.toList → ILt P I w → Calls P f vals w fun e w' => ∃ val, e = .returned val ∧ V.R P I noMu w' v val ∧ w.grownBy w' none) :
  FnOK P f vs [] ⟨v, [], []⟩ := by
 refine ⟨⟨Nat.le_refl _, fun b hb => by simp at hb, fun b hb => by simp at hb, fun b hb => by simp at hb⟩, fun I w μ vals hv pre hdom => ?_⟩
 have hμ : MuLe μ noMu := fun b g hb => by have := hdom b g hb; simp at this
 refine (h I w vals (hv.keep (.refl w (fun _ => False)) (.refl I) hμ) pre.ilt).mono ?_
 rintro e w' ⟨val, he, hR, hg⟩
 exact ⟨val, μ, I, he, R_up hR, ⟨.refl _, fun k hk => .inl hk, .ofGrown hg pre.ilt, .refl _, fun b g hb => .inl hb, fun _ _ _ => rfl, fun b hb blk h => by simp at h, fun b hb blk h => by simp at h, fun b c b1 b2 g hne hb hc h1 => by simp at h1⟩⟩
end Go.Proofs.YtfncaghjfgnnhaaGreatDoor

namespace Go.Proofs
open Go.Shelf
def Tryz.lays138_ren : Go.Shelf.Ren := ⟨fun | 138 => 215 | 195 => 216 | 218 => 217 | 143 => 218 | 219 => 219 | 217 => 108 | 225 => 220 | 224 => 221 | 267 => 222 | 266 => 122 | 314 => 223 | n => n, fun | 9 => 9 | 3 => 3 | 4 => 4 | 5 => 5 | 0 => 0 | 46 => 122 | 146 => 238 | 51 => 104 | n => n, fun | 1 => 1 | n => n⟩
set_option maxRecDepth 100000 in
theorem Tryz.lays138 : Go.Proofs.Lays.n138 Tryz.prog Tryz.lays138_ren where
 mixed := by kernel_rfl
 f138 := Tryz.func215.trans (congrArg some (by kernel_rfl))
 f143 := Tryz.func218.trans (congrArg some (by kernel_rfl))
 f195 := Tryz.func216.trans (congrArg some (by kernel_rfl))
 f217 := Tryz.func108.trans (congrArg some (by kernel_rfl))
 f218 := Tryz.func217.trans (congrArg some (by kernel_rfl))
 f219 := Tryz.func219.trans (congrArg some (by kernel_rfl))
 f224 := Tryz.func221.trans (congrArg some (by kernel_rfl))
 f225 := Tryz.func220.trans (congrArg some (by kernel_rfl))
 f266 := Tryz.func122.trans (congrArg some (by kernel_rfl))
 f267 := Tryz.func222.trans (congrArg some (by kernel_rfl))
 f314 := Tryz.func223.trans (congrArg some (by kernel_rfl))
 t0 := Tryz.underlying0
 a0 := Tryz.isAgg0
 z0 := Tryz.sizeOf0
 v0 := Tryz.zeroValue0
 t3 := Tryz.underlying3
 a3 := Tryz.isAgg3
 z3 := Tryz.sizeOf3
 v3 := Tryz.zeroValue3
 t4 := Tryz.underlying4
 a4 := Tryz.isAgg4
 z4 := Tryz.sizeOf4
 v4 := Tryz.zeroValue4
 t5 := Tryz.underlying5
 a5 := Tryz.isAgg5
 z5 := Tryz.sizeOf5
 v5 := Tryz.zeroValue5
 t9 := Tryz.underlying9
 a9 := Tryz.isAgg9
 z9 := Tryz.sizeOf9
 v9 := Tryz.zeroValue9
 t46 := Tryz.underlying122
 a46 := Tryz.isAgg122
 z46 := Tryz.sizeOf122
 v46 := Tryz.zeroValue122
 t51 := Tryz.underlying104
 a51 := Tryz.isAgg104
 z51 := Tryz.sizeOf104
 v51 := Tryz.zeroValue104
 t146 := Tryz.underlying238
 a146 := Tryz.isAgg238
 z146 := Tryz.sizeOf238
 v146 := Tryz.zeroValue238
 g1 := by kernel_rfl
def Tryz.lays156_ren : Go.Shelf.Ren := ⟨fun | 156 => 55 | 165 => 84 | 166 => 85 | 169 => 86 | 240 => 105 | 241 => 106 | 276 => 120 | 277 => 121 | n => n, fun | 31 => 22 | 9 => 9 | 3 => 3 | 4 => 4 | 0 => 0 | 20 => 20 | 72 => 86 | 76 => 90 | 70 => 84 | 37 => 31 | 75 => 89 | 127 => 119 | 164 => 132 | 5 => 5 | 80 => 51 | n => n, fun | n => n⟩
set_option maxRecDepth 100000 in
theorem Tryz.lays156 : Go.Proofs.Lays.n156 Tryz.prog Tryz.lays156_ren where
 mixed := by kernel_rfl
 f156 := Tryz.func55.trans (congrArg some (by kernel_rfl))
 f165 := Tryz.func84.trans (congrArg some (by kernel_rfl))
 f166 := Tryz.func85.trans (congrArg some (by kernel_rfl))
 f169 := Tryz.func86.trans (congrArg some (by kernel_rfl))
 f240 := Tryz.func105.trans (congrArg some (by kernel_rfl))
 f241 := Tryz.func106.trans (congrArg some (by kernel_rfl))
 f276 := Tryz.func120.trans (congrArg some (by kernel_rfl))
 f277 := Tryz.func121.trans (congrArg some (by kernel_rfl))
 t0 := Tryz.underlying0
 a0 := Tryz.isAgg0
 z0 := Tryz.sizeOf0
 v0 := Tryz.zeroValue0
 t3 := Tryz.underlying3
 a3 := Tryz.isAgg3
 z3 := Tryz.sizeOf3
 v3 := Tryz.zeroValue3
 t4 := Tryz.underlying4
 a4 := Tryz.isAgg4
 z4 := Tryz.sizeOf4
 v4 := Tryz.zeroValue4
 t9 := Tryz.underlying9
 a9 := Tryz.isAgg9
 z9 := Tryz.sizeOf9
 v9 := Tryz.zeroValue9
 t20 := Tryz.underlying20
 a20 := Tryz.isAgg20
 z20 := Tryz.sizeOf20
 v20 := Tryz.zeroValue20
 t31 := Tryz.underlying22
 a31 := Tryz.isAgg22
 z31 := Tryz.sizeOf22
 v31 := Tryz.zeroValue22
 t37 := Tryz.underlying31
 a37 := Tryz.isAgg31
 z37 := Tryz.sizeOf31
 v37 := Tryz.zeroValue31
 t70 := Tryz.underlying84
 a70 := Tryz.isAgg84
 z70 := Tryz.sizeOf84
 v70 := Tryz.zeroValue84
 t72 := Tryz.underlying86
 a72 := Tryz.isAgg86
 z72 := Tryz.sizeOf86
 v72 := Tryz.zeroValue86
 t75 := Tryz.underlying89
 a75 := Tryz.isAgg89
 z75 := Tryz.sizeOf89
 v75 := Tryz.zeroValue89
 t76 := Tryz.underlying90
 a76 := Tryz.isAgg90
 z76 := Tryz.sizeOf90
 v76 := Tryz.zeroValue90
 t127 := Tryz.underlying119
 a127 := Tryz.isAgg119
 z127 := Tryz.sizeOf119
 v127 := Tryz.zeroValue119
 t164 := Tryz.underlying132
 a164 := Tryz.isAgg132
 z164 := Tryz.sizeOf132
 v164 := Tryz.zeroValue132
set_option maxRecDepth 100000 in
theorem Tryz.extra156 : Go.Proofs.Builder.Extra Tryz.prog Tryz.lays156_ren where
 sizeBuilder := by kernel_rfl
 liesBuilder := by kernel_rfl
 t5 := Tryz.underlying5
 a5 := Tryz.isAgg5
 z5 := Tryz.sizeOf5
 v5 := Tryz.zeroValue5
 infoByte := by kernel_rfl
 cellsByte := by kernel_rfl
 sizeByte := by kernel_rfl
 neB5 := by decide
def Tryz.lays171_ren : Go.Shelf.Ren := ⟨fun | 171 => 54 | 243 => 83 | 246 => 104 | 283 => 116 | 284 => 117 | 285 => 118 | 286 => 119 | 129 => 133 | 317 => 143 | 318 => 144 | 319 => 145 | 320 => 146 | 337 => 164 | 338 => 165 | n => n, fun | 3 => 3 | 9 => 9 | 2 => 2 | 4 => 4 | 171 => 126 | 0 => 0 | 53 => 127 | 37 => 31 | 5 => 5 | 173 => 130 | 212 => 159 | 51 => 104 | 20 => 20 | 213 => 160 | 46 => 122 | 232 => 203 | 233 => 204 | n => n, fun | 17 => 0 | 18 => 4 | 19 => 5 | n => n⟩
set_option maxRecDepth 100000 in
theorem Tryz.lays171 : Go.Proofs.LaysM.n171 Tryz.prog Tryz.lays171_ren where
 mixed := by kernel_rfl
 f129 := Tryz.func133.trans (congrArg some (by kernel_rfl))
 f171 := Tryz.func54.trans (congrArg some (by kernel_rfl))
 f243 := Tryz.func83.trans (congrArg some (by kernel_rfl))
 f246 := Tryz.func104.trans (congrArg some (by kernel_rfl))
 f283 := Tryz.func116.trans (congrArg some (by kernel_rfl))
 f284 := Tryz.func117.trans (congrArg some (by kernel_rfl))
 f285 := Tryz.func118.trans (congrArg some (by kernel_rfl))
 f286 := Tryz.func119.trans (congrArg some (by kernel_rfl))
 f317 := Tryz.func143.trans (congrArg some (by kernel_rfl))
 f318 := Tryz.func144.trans (congrArg some (by kernel_rfl))
 f319 := Tryz.func145.trans (congrArg some (by kernel_rfl))
 f320 := Tryz.func146.trans (congrArg some (by kernel_rfl))
 f337 := Tryz.func164.trans (congrArg some (by kernel_rfl))
 f338 := Tryz.func165.trans (congrArg some (by kernel_rfl))
 t0 := Tryz.underlying0
 a0 := Tryz.isAgg0
 z0 := Tryz.sizeOf0
 v0 := Tryz.zeroValue0
 t2 := Tryz.underlying2
 a2 := Tryz.isAgg2
 z2 := Tryz.sizeOf2
 v2 := Tryz.zeroValue2
 t3 := Tryz.underlying3
 a3 := Tryz.isAgg3
 z3 := Tryz.sizeOf3
 v3 := Tryz.zeroValue3
 t4 := Tryz.underlying4
 a4 := Tryz.isAgg4
 z4 := Tryz.sizeOf4
 v4 := Tryz.zeroValue4
 t5 := Tryz.underlying5
 a5 := Tryz.isAgg5
 z5 := Tryz.sizeOf5
 v5 := Tryz.zeroValue5
 t9 := Tryz.underlying9
 a9 := Tryz.isAgg9
 z9 := Tryz.sizeOf9
 v9 := Tryz.zeroValue9
 t20 := Tryz.underlying20
 a20 := Tryz.isAgg20
 z20 := Tryz.sizeOf20
 v20 := Tryz.zeroValue20
 t37 := Tryz.underlying31
 a37 := Tryz.isAgg31
 z37 := Tryz.sizeOf31
 v37 := Tryz.zeroValue31
 t46 := Tryz.underlying122
 a46 := Tryz.isAgg122
 z46 := Tryz.sizeOf122
 v46 := Tryz.zeroValue122
 t51 := Tryz.underlying104
 a51 := Tryz.isAgg104
 z51 := Tryz.sizeOf104
 v51 := Tryz.zeroValue104
 t53 := Tryz.underlying127
 a53 := Tryz.isAgg127
 z53 := Tryz.sizeOf127
 v53 := Tryz.zeroValue127
 t171 := Tryz.underlying126
 a171 := Tryz.isAgg126
 z171 := Tryz.sizeOf126
 v171 := Tryz.zeroValue126
 t173 := Tryz.underlying130
 a173 := Tryz.isAgg130
 z173 := Tryz.sizeOf130
 v173 := Tryz.zeroValue130
 t212 := Tryz.underlying159
 a212 := Tryz.isAgg159
 z212 := Tryz.sizeOf159
 v212 := Tryz.zeroValue159
 t213 := Tryz.underlying160
 a213 := Tryz.isAgg160
 z213 := Tryz.sizeOf160
 t232 := Tryz.underlying203
 a232 := Tryz.isAgg203
 z232 := Tryz.sizeOf203
 v232 := Tryz.zeroValue203
 t233 := Tryz.underlying204
 a233 := Tryz.isAgg204
 z233 := Tryz.sizeOf204
 v233 := Tryz.zeroValue204
 g17 := by kernel_rfl
 g18 := by kernel_rfl
 g19 := by kernel_rfl
 i0 := by kernel_rfl
 i2 := by kernel_rfl
 i3 := by kernel_rfl
 i4 := by kernel_rfl
 i5 := by kernel_rfl
 i9 := by kernel_rfl
 i20 := by kernel_rfl
 i37 := by kernel_rfl
 i46 := by kernel_rfl
 i51 := by kernel_rfl
 i53 := by kernel_rfl
 i171 := by kernel_rfl
 i173 := by kernel_rfl
 i212 := by kernel_rfl
 i232 := by kernel_rfl
 i233 := by kernel_rfl
 m17 := by kernel_rfl
 m18 := by kernel_rfl
 m19 := by kernel_rfl
end Go.Proofs

namespace Go.Proofs.YtfncaghjfgnnhaaGreatDoor
open Go.RowKit
set_option maxRecDepth 100000
theorem grown_of_below {w w' : World} (h : Below w.heap.size w w') : w.grownBy w' none := ⟨h.os, h.tape, h.output, h.size, fun k hk _ => h.block k hk⟩
theorem count_ok (t : List UInt8) (c : UInt8) : FnOK Tryz.prog 215 [.str t, .str [c]] [] ⟨.int .i64 (t.count c : Nat), [], []⟩ := by
 refine FnOK.ofCalls fun I w vals hv hI => ?_
 simp only [V.RL, V.R] at hv
 obtain ⟨u, us, h1, rfl, u2, us2, rfl, rfl, rfl⟩ := hv
 obtain rfl : vals = #[.string ⟨t.toArray⟩, .string ⟨#[c]⟩] := by cases vals; simp_all
 refine (Any.strings_Count_one Tryz.lays138 ⟨t.toArray⟩ c w).mono ?_
 rintro e w' ⟨he, rfl⟩
 refine ⟨_, he, ?_, ⟨rfl, rfl, rfl, Nat.le_refl _, fun _ _ _ => rfl⟩⟩
 simp only [V.R, Lib.countByte]
theorem join_ok (L : List (List UInt8)) (sep : List UInt8) (hn : L.length ≤ 140737488355328) (hl : (Lib.join L sep).length ≤ 140737488355328) :
  FnOK Tryz.prog 55 [.dsl L.length false (encs encStr L), .str sep] [] ⟨.str (Lib.join L sep), [], []⟩ := by
 refine FnOK.ofCalls fun I w vals hv hI => ?_
 simp only [V.RL, V.R] at hv
 obtain ⟨u, us, h1, ⟨a, cap, rfl, hcap, _, ha, hc⟩, u2, us2, rfl, rfl, rfl⟩ := hv
 obtain rfl : vals = #[.slice a L.length cap, .string ⟨sep.toArray⟩] := by cases vals; simp_all
 have fin : ∀ (e : Ending) (w' : World), (e = .returned (.string ⟨(Lib.join L sep).toArray⟩) ∧ Below w.heap.size w w') → ∃ val, e = .returned val ∧ V.R Tryz.prog I noMu w' (.str (Lib.join L sep)) val ∧ w.grownBy w' none := by
  rintro e w' ⟨he, hb⟩
  exact ⟨_, he, by simp only [V.R], grown_of_below hb⟩
 have hc' : L = [] ∨ ∃ g off, a = some ⟨g, off, none⟩ ∧ I g ∧ ∃ cells e fr, w.heap[g]? = some (.cells cells e fr) ∧ V.RL Tryz.prog I noMu w (encs encStr L) ((cells.toList.drop off).take (encs encStr L).length) := by
  rcases hc with hc | hc | hc
  ·exact .inl (layStr.inj L [] hc)
  ·exact .inl (List.eq_nil_of_length_eq_zero hc)
  ·exact .inr hc
 rcases hc' with rfl | ⟨g, off, rfl, hg, cells, e, fr, hh, hcs⟩
 ·subst_vars
  refine (Any.strings_Join_none Tryz.lays156 Tryz.extra156 a cap ⟨sep.toArray⟩ w).mono ?_
  rintro e w' ⟨he, rfl⟩
  exact fin e _ ⟨he, Below.refl _ _⟩
 ·have hlen : (encs encStr L).length = L.length := by rw [layStr.length, Nat.mul_one]
  have hcell : ∀ (j : Nat) x, (L.map fun s => (⟨s.toArray⟩ : ByteArray))[j]? = some x → w.cell? ⟨g, off + j, none⟩ = some (.string x) := by
   intro j x hx
   rw [List.getElem?_map] at hx
   obtain ⟨s, hs, rfl⟩ := Option.map_eq_some_iff.1 hx
   have hj : j < L.length := (List.getElem?_eq_some_iff.1 hs).1
   have he : (encs encStr L)[j]? = some (.str s) := by
    have h2 := layStr.at L [] j 1 hj rfl
    rw [Nat.mul_one] at h2
    have h3 : ((encs encStr L).drop j)[0]? = some (.str (L.getD j [])) := by
     have := congrArg (·[0]?) h2
     simpa [encStr] using this
    rw [List.getElem?_drop, Nat.add_zero] at h3
    rw [h3, List.getD_eq_getElem?_getD, hs]; rfl
   obtain ⟨v, hv1, hv2⟩ := hcs.get he
   simp only [V.R] at hv2
   subst hv2
   rw [hlen, List.getElem?_take, if_pos hj, List.getElem?_drop, Array.getElem?_toList] at hv1
   simp only [World.cell?, hh]
   exact hv1
  have hmap : (L.map fun s => (⟨s.toArray⟩ : ByteArray)).map (·.data.toList) = L := by
   rw [List.map_map]
   conv => rhs; rw [← List.map_id L]
   rfl
  have := Any.strings_Join Tryz.lays156 Tryz.extra156 g off cap (L.map fun s => ⟨s.toArray⟩) ⟨sep.toArray⟩ w hcell (hI _ hg) (by simpa using hn) (by simpa using hcap) (by rw [hmap]; exact hl)
  rw [hmap, List.length_map] at this
  exact this.mono fin
theorem itoa_ok (n : Int) (h : -9223372036854775808 ≤ n ∧ n ≤ 9223372036854775807) : FnOK Tryz.prog 54 [.int .i64 n] [] ⟨.str (Lib.itoa n), [], []⟩ := by
 refine FnOK.ofCalls fun I w vals hv hI => ?_
 simp only [V.RL, V.R] at hv
 obtain ⟨u, us, h1, rfl, rfl⟩ := hv
 obtain rfl : vals = #[.int .i64 n] := by cases vals; simp_all
 have ht := (hI.laid ("internal/strconv.uint64pow10", .u64, Lib.pow10Tab) (by simp [tabs]) 0 (by kernel_rfl)).2
 refine (Any.strconv_Itoa Tryz.lays171 n h.1 h.2 w ht).mono ?_
 rintro e w' ⟨he, k, os, rfl⟩
 refine ⟨_, he, by simp only [V.R], ⟨rfl, rfl, rfl, ?_, fun j hj _ => ?_⟩⟩
 ·show w.heap.size ≤ (w.heap ++ os).size
  rw [Array.size_append]; omega
 ·show (w.heap ++ os)[j]? = w.heap[j]?
  rw [Array.getElem?_append, if_pos hj]
end Go.Proofs.YtfncaghjfgnnhaaGreatDoor

namespace Go.Proofs.YtfncaghjfgnnhaaGreatDoor
open Go.RowKit
set_option maxRecDepth 100000
theorem dgs_dec : ∀ (k u : Nat), u < 10 ^ (k + 1) → dgs (k + 1) (u : Int) = Lib.decDigits u
 | k, u, h => by
  rw [dgs, Lib.decDigits]
  by_cases hu : u < 10
  ·rw [if_pos (by omega), dif_pos hu, show ((48 : Int) + (u : Int)).toNat = 48 + u by omega]
  ·rw [if_neg (by omega), dif_neg hu]
   have q : (u : Int).tdiv 10 = ((u / 10 : Nat) : Int) := by rw [Int.tdiv_eq_ediv_of_nonneg (by omega)]; omega
   have r : (48 + (u : Int).tmod 10).toNat = 48 + u % 10 := by rw [Int.tmod_eq_emod_of_nonneg (by omega)]; omega
   rcases k with _ | k
   ·simp at h; omega
   ·rw [q, r, dgs_dec k (u / 10) (by rw [Nat.pow_succ] at h; omega)]
theorem itoa_dg (n : Int) (h : -9223372036854775808 < n ∧ n ≤ 9223372036854775807) : Lib.itoa n = dg n := by
 unfold Lib.itoa dg
 split
 ·rw [show -n = (n.natAbs : Int) by omega, dgs_dec 18 _ (by omega)]
 ·rw [← dgs_dec 18 n.toNat (by omega), Int.toNat_of_nonneg (by omega)]
def prt (o : Bool) (k : List UInt8) (j : J) : List UInt8 := (if o then quo k ++ [58] else []) ++ pj j
def prts (o : Bool) : List (List UInt8) → List J → List (List UInt8)
 | _, [] => []
 | ks, j :: js => prt o (ks.headD []) j :: prts o ks.tail js
theorem prts_len (o : Bool) : ∀ (its : List J) (ks : List (List UInt8)), (prts o ks its).length = its.length
 | [], ks => rfl
 | j :: js, ks => by rw [prts, List.length_cons, List.length_cons, prts_len o js]
theorem inter_cons (sep x : List UInt8) (xs : List (List UInt8)) : sep.intercalate (x :: xs) = x ++ xs.flatMap (sep ++ ·) := by
 induction xs generalizing x with
 | nil => simp [List.intercalate]
 | cons y ys ih =>
  have := ih y
  simp only [List.intercalate, List.intersperse, List.flatten_cons, List.flatMap_cons] at this ⊢
  rw [this, List.append_assoc]
theorem pjs_flat (o : Bool) : ∀ (its : List J) (ks : List (List UInt8)), pjs o false ks its = (prts o ks its).flatMap ([44] ++ ·)
 | [], ks => by simp [pjs, prts]
 | j :: js, ks => by
  rw [pjs, prts, List.flatMap_cons, pjs_flat o js]
  simp [prt]
theorem join_pjs (o : Bool) (its : List J) (ks : List (List UInt8)) : Lib.join (prts o ks its) [44] = pjs o true ks its := by
 cases its with
 | nil => simp [pjs, prts, Lib.join, List.intercalate]
 | cons j js =>
  rw [Lib.join, prts, inter_cons, pjs, pjs_flat]
  simp [prt]
theorem prts_step (o : Bool) (i : Nat) (ks : List (List UInt8)) (its : List J) (h : i < its.length) : prts o (ks.drop i) (its.drop i) = prt o (ks.getD i []) (its.getD i J.zero) :: prts o (ks.drop (i + 1)) (its.drop (i + 1)) := by
 rw [List.drop_eq_getElem_cons h, prts]
 have e1 : (ks.drop i).headD [] = ks.getD i [] := by
  rw [List.headD_eq_head?_getD, List.head?_drop, List.getD_eq_getElem?_getD]
 have e2 : its[i] = its.getD i J.zero := by rw [List.getD_eq_getElem?_getD, List.getElem?_eq_getElem h]; rfl
 rw [e1, e2, List.tail_drop]
end Go.Proofs.YtfncaghjfgnnhaaGreatDoor

namespace Go.Proofs.YtfncaghjfgnnhaaGreatDoor
open Go.RowKit
set_option maxRecDepth 100000
abbrev fAtoi : Nat := 111
abbrev fItoaN : Nat := 54
abbrev fTrimP : Nat := 112
abbrev fTrimP1 : Nat := 136
abbrev fReadN : Nat := 101
abbrev fNumber : Nat := 78
abbrev tNumErr : Nat := 169
def atoiV (t : List UInt8) : Int × Bool := match Lib.atoiAll t with
 | .ok v => (v, true)
 | .range => (Lib.atoiSat t, false)
 | _ => (0, false)
def atoiRet (t : List UInt8) (ok : Bool) : Ret := bif ok then ⟨.tup [.int .i64 (atoiV t).1, .lit .nilIface], [], []⟩ else ⟨.tup [.int .i64 (atoiV t).1, .box (.iface tNumErr) [.dptr []]], [], []⟩
def AtoiOK : Prop := ∀ t : List UInt8, t.length ≤ 1048576 → FnOK Tryz.prog fAtoi [.str t] [] (atoiRet t (atoiV t).2)
noncomputable def resPx1 : ResT := fun f vs hp => match vs, hp with
 | [.str s, .str p], [] => bif Nat.beq f fPfx1 then some ⟨pfx p s, fun y => ⟨.bool y, [], []⟩⟩ else none
 | _, _ => none
set_option maxRecDepth 100000 in
theorem itrim1T (s p : List UInt8) : fnT { P := Tryz.prog, vw := vwA, res := resPx1 } 0 fTrimP1 [.str s, .str p] [] = (
 .bind (pfx p s) fun y0 => .need [FnOK Tryz.prog 107 [.str s, .str p] [] (Ret.mk (.bool y0) [] [])] (bif y0 then .need [(0 : Int) ≤ (↑p.length : Int) ∧ (↑p.length : Int) ≤ (↑s.length : Int)] (.done (Ret.mk (.str (List.drop (Int.toNat
 (↑p.length : Int)) (List.take s.length s))) [] [])) else .done (Ret.mk (.str s) [] [])) : T _) := (T.force_eq _).symm.trans (by kernel_rfl)
def trimP (p s : List UInt8) : List UInt8 := if pfx p s then s.drop p.length else s
theorem itrim1_ok (s p : List UInt8) : FnOK Tryz.prog fTrimP1 [.str s, .str p] [] ⟨.str (trimP p s), [], []⟩ := by
 refine fnOK_TL (E := { P := Tryz.prog, vw := vwA, res := resPx1 }) follows named (itrim1T s p) (by simp) ?_
 simp only [WP_cond, T.WP, All, and_true]
 rintro y rfl
 unfold trimP
 refine ⟨ipfx1_ok s p, fun h => ⟨?_, ?_⟩, fun h => ?_⟩
 ·have := pfx_len h; omega
 ·rw [if_pos h, Int.toNat_natCast, List.take_of_length_le (by simp)]; exact ⟨rfl, rfl, by simp⟩
 ·rw [if_neg (by rw [h]; simp)]; exact ⟨rfl, rfl, by simp⟩
noncomputable def resTr : ResT := fun f vs hp => match vs, hp with
 | [.str s, .str p], [] => bif Nat.beq f fTrimP1 then some ⟨trimP p s, fun y => ⟨.str y, [], []⟩⟩ else none
 | _, _ => none
set_option maxRecDepth 100000 in
theorem itrimT (s p : List UInt8) : fnT { P := Tryz.prog, vw := vwA, res := resTr } 0 fTrimP [.str s, .str p] [] = (
 .bind (trimP p s) fun y0 => .need [FnOK Tryz.prog 136 [.str s, .str p] [] (Ret.mk (.str y0) [] [])] (.done (Ret.mk (.str y0) [] [])) : T _) := (T.force_eq _).symm.trans (by kernel_rfl)
theorem itrim_ok (s p : List UInt8) : FnOK Tryz.prog fTrimP [.str s, .str p] [] ⟨.str (trimP p s), [], []⟩ := by
 refine fnOK_TL (E := { P := Tryz.prog, vw := vwA, res := resTr }) follows named (itrimT s p) (by simp) ?_
 simp only [T.WP, All, and_true]
 rintro y rfl
 exact ⟨itrim1_ok s p, ⟨rfl, rfl, by simp⟩⟩
noncomputable def resRn : ResT := fun f vs hp => match vs, hp with
 | [.str s, .str p], [] => bif Nat.beq f fTrimP then some ⟨trimP p s, fun y => ⟨.str y, [], []⟩⟩ else none
 | [.int _ n], [] => bif Nat.beq f fItoaN then some ⟨Lib.itoa n, fun y => ⟨.str y, [], []⟩⟩ else none
 | _, _ => none
noncomputable def spRn (a : Int × Bool) : Nat → Nat → FuncId → List V → Hp → Option (Bool × Ret × Ret) := fun _ _ f vs hp => match vs, hp with
 | [.str _], [] => bif Nat.beq f fAtoi then some (a.2, ⟨.tup [.int .i64 a.1, .lit .nilIface], [], []⟩, ⟨.tup [.int .i64 a.1, .box (.iface tNumErr) [.dptr []]], [], []⟩) else none
 | _, _ => none
set_option maxRecDepth 100000 in
theorem readNT (a : Int × Bool) (s : List UInt8) : fnT { P := Tryz.prog, vw := vwA, res := resRn, sp := spRn a } 0 fReadN [.str s] [] = (
 bif a.2 then .need [FnOK Tryz.prog 111 [.str s] [] (Ret.mk (.tup [.int .i64 a.1, .lit Value.nilIface]) [] [])] (.bind (Lib.itoa a.1) fun y0 => .need [FnOK Tryz.prog 54 [.int .i64 a.1] [] (Ret.mk (.str y0) [] [])] (bif !y0 == s then .done
 (Ret.mk (.tup [.int .i64 0, .bool false]) [] []) else .bind (trimP [(45 : UInt8)] s) fun y1 => .need [FnOK Tryz.prog 112 [.str s, .str [45]] [] (Ret.mk (.str y1) [] [])] (bif decide ((↑y1.length : Int) > 18) then .done (Ret.mk (.tup [.int
 .i64 0, .bool false]) [] []) else .done (Ret.mk (.tup [.int .i64 a.1, .bool true]) [] [])))) else .need [FnOK Tryz.prog 111 [.str s] [] (Ret.mk (.tup [.int .i64 a.1, .box (BK.iface 169) [V.dptr []]]) [] [])] (.done (Ret.mk (.tup [.int .i64
 0, .bool false]) [] [])) : T _) := by kernel_rfl
def rdN (s : List UInt8) : Int × Bool := bif (atoiV s).2 && (Lib.itoa (atoiV s).1 == s) && decide ((trimP [45] s).length ≤ 18) then ((atoiV s).1, true) else (0, false)
theorem readN_ok (hA : AtoiOK) (s : List UInt8) (hs : s.length ≤ 1048576) : FnOK Tryz.prog fReadN [.str s] [] ⟨.tup [.int .i64 (rdN s).1, .bool (rdN s).2], [], []⟩ := by
 refine fnOK_TL (E := { P := Tryz.prog, vw := vwA, res := resRn, sp := spRn (atoiV s) }) follows named (readNT (atoiV s) s) (by simp) ?_
 have h := hA s hs
 have hb : -9223372036854775808 ≤ (atoiV s).1 ∧ (atoiV s).1 ≤ 9223372036854775807 ∨ (atoiV s).2 = false := by
  unfold atoiV
  cases ha : Lib.atoiAll s with
  | ok v => exact .inl (Lib.atoiAll_bounds ha)
  | _ => exact .inr rfl
 simp only [WP_cond, T.WP, All, decide_eq_true_eq, decide_eq_false_iff_not, and_true]
 refine ⟨fun h1 => ?_, fun h1 => ?_⟩
 ·rw [h1] at h
  refine ⟨h, ?_⟩
  rintro y rfl
  have hb' := hb.resolve_right (by rw [h1]; simp)
  refine ⟨itoa_ok _ hb', fun hy => ?_, fun hy => ?_⟩
  ·have e : rdN s = (0, false) := by
    unfold rdN
    rw [show (Lib.itoa (atoiV s).1 == s) = false by simpa using hy]; simp
   rw [e]; exact ⟨rfl, rfl, by simp⟩
  ·rintro y rfl
   have hy' : (Lib.itoa (atoiV s).1 == s) = true := by simpa using hy
   refine ⟨itrim_ok _ _, fun hz => ?_, fun hz => ?_⟩
   ·have e : rdN s = (0, false) := by
     unfold rdN
     rw [decide_eq_false (by omega)]; simp
    rw [e]; exact ⟨rfl, rfl, by simp⟩
   ·have e : rdN s = ((atoiV s).1, true) := by
     unfold rdN
     rw [decide_eq_true (by omega), hy', h1]; rfl
    rw [e]; exact ⟨rfl, rfl, by simp⟩
 ·rw [h1] at h
  have e : rdN s = (0, false) := by unfold rdN; rw [h1]; rfl
  rw [e]
  exact ⟨h, ⟨rfl, rfl, by simp⟩⟩
def nmC (c : UInt8) : Bool := c == 45 || dgtI (c.toNat : Nat)
def stNm (t : List UInt8) (i : Int) (bad : Bool) (room : Int) (from' : Int) : St := ⟨mkTm 83 [(0, .ptr 0 0), (2, .ptr 1 0), (3, .int .i64 from')], [rdI t i bad room, zJ], [0]⟩
def nfNm : Ex → Kp := fun ex => match ex with
 | _ => { keep := [0, 2, 3], wr := [0] }
--FOLD rdI zJ
set_option maxRecDepth 100000 in
theorem numL0 (t : List UInt8) (i : Int) (bad : Bool) (room : Int) (fr : Int) : bodyT ESk 1 nfNm (lp Tryz.prog fNumber 0) (stNm t i bad room fr) = (
 bif decide (i < (↑t.length : Int)) then .need [0 ≤ i ∧ i < (↑t.length : Int)] (bif (↑(UInt8.toNat (List.getD t (Int.toNat i) (0 : UInt8))) : Int) == 45 then .done (Ex.normal, St.mk (mkTm 83 [(0, .ptr 0 0), (2, .ptr 1 0), (3, .int .i64 fr)])
 [rdI t (IntKind.wrap IntKind.i64 (i + 1)) bad room, zJ] [0]) else .need [0 ≤ i ∧ i < (↑t.length : Int)] (.bind (dgtI (↑(UInt8.toNat (List.getD t (Int.toNat i) (0 : UInt8))) : Int)) fun y0 => .need [FnOK (Env.P ESk) 100 [.int .u8
 (↑(UInt8.toNat (List.getD t (Int.toNat i) (0 : UInt8))) : Int)] [] (Ret.mk (.bool y0) [] [])] (bif y0 then .done (Ex.normal, St.mk (mkTm 83 [(0, .ptr 0 0), (2, .ptr 1 0), (3, .int .i64 fr)]) [rdI t (IntKind.wrap IntKind.i64 (i + 1)) bad
 room, zJ] [0]) else .done (Ex.exit 0, St.mk (mkTm 83 [(0, .ptr 0 0), (2, .ptr 1 0), (3, .int .i64 fr)]) [rdI t i bad room, zJ] [0])))) else .done (Ex.exit 0, St.mk (mkTm 83 [(0, .ptr 0 0), (2, .ptr 1 0), (3, .int .i64 fr)]) [rdI t i bad
 room, zJ] [0]) : T _) := by kernel_rfl
theorem num_loop {t : List UInt8} (ht : t.length ≤ 1048576) (bad : Bool) (room fr : Int) : ∀ s : List UInt8, s <:+ t →
  LoopTo Tryz.prog 1 (lp Tryz.prog fNumber 0) (stNm t (pos' t s : Nat) bad room fr) (.exit 0) (stNm t (pos' t (s.dropWhile nmC) : Nat) bad room fr)
 | [], h => by
  refine loopT (E := ESk) follows named (numL0 t (pos' t [] : Nat) bad room fr) ?_
  rw [pos_nil]
  simp only [WP_cond, T.WP, All, decide_eq_true_eq, decide_eq_false_iff_not, and_true, beq_iff_eq, beq_eq_false_iff_ne, ne_eq]
  refine ⟨fun h => by omega, fun _ => ⟨rfl, ?_⟩⟩
  rw [show ([] : List UInt8).dropWhile nmC = [] from rfl, pos_nil]
  rfl
 | c :: s, h => by
  obtain ⟨h1, h2, h3⟩ := pos_cons h
  have ih := num_loop ht bad room fr s (suf_tail h)
  have c45 := u8_eq c 45 (by omega)
  have w1 : IntKind.i64.wrap (((pos' t (c :: s) : Nat) : Int) + 1) = (pos' t s : Nat) := by rw [wrap_succ (by omega), h2]
  have tree := numL0 t (pos' t (c :: s) : Nat) bad room fr
  simp only [Int.toNat_natCast, h1, w1] at tree
  refine loopT (E := ESk) follows named tree ?_
  have stop : nmC c = false → (c :: s).dropWhile nmC = c :: s := fun h => by rw [List.dropWhile_cons_of_neg (by rw [h]; simp)]
  have on : nmC c = true → (c :: s).dropWhile nmC = s.dropWhile nmC := fun h => by rw [List.dropWhile_cons_of_pos h]
  simp only [WP_cond, T.WP, All, decide_eq_true_eq, decide_eq_false_iff_not, and_true, beq_iff_eq, beq_eq_false_iff_ne, ne_eq]
  refine ⟨fun _ => ⟨by omega, fun e => ?_, fun e => ⟨by omega, ?_⟩⟩, fun h => by omega⟩
  ·have : nmC c = true := by
    unfold nmC
    rw [← show (((c.toNat : Nat) : Int) == ((45 : Nat) : Int)) = (c == 45) from c45, show (((c.toNat : Nat) : Int) == ((45 : Nat) : Int)) = true from beq_iff_eq.2 (by omega)]; rfl
   rw [on this]; exact ih
  ·rintro y rfl
   have e45 : (c == 45) = false := by
    rw [← show (((c.toNat : Nat) : Int) == ((45 : Nat) : Int)) = (c == 45) from c45]
    exact beq_eq_false_iff_ne.2 (by omega)
   refine ⟨idigit_ok _, fun hy => ?_, fun hy => ⟨rfl, ?_⟩⟩
   ·rw [on (by unfold nmC; rw [hy, Bool.or_true])]; exact ih
   ·rw [stop (by unfold nmC; rw [hy, e45]; rfl)]; rfl
theorem tok_at {t s : List UInt8} (h : s <:+ t) (p : UInt8 → Bool) : (t.take (pos' t (s.dropWhile p))).drop (pos' t s) = s.takeWhile p ∧ pos' t s ≤ pos' t (s.dropWhile p) ∧ pos' t (s.dropWhile p) ≤ t.length := by
 have h2 : s.dropWhile p <:+ t := (List.dropWhile_suffix _).trans h
 have e := List.takeWhile_append_dropWhile (p := p) (l := s)
 have l1 := pos_le h
 have l2 := pos_le h2
 have l3 := congrArg List.length e
 rw [List.length_append] at l3
 refine ⟨?_, by omega, by omega⟩
 rw [List.drop_take, drop_pos h, show pos' t (s.dropWhile p) - pos' t s = (s.takeWhile p).length by omega]
 have key : ∀ a b : List UInt8, (a ++ b).take a.length = a := fun a b => List.take_left ..
 have := key (s.takeWhile p) (s.dropWhile p)
 rw [e] at this
 exact this
noncomputable def resNm (a : Int × Bool) : ResT := fun f vs hp => match vs, hp with
 | [.str _], [] => bif Nat.beq f fReadN then some ⟨a, fun y => ⟨.tup [.int .i64 y.1, .bool y.2], [], []⟩⟩ else none
 | [.int _ n], [] => bif Nat.beq f fIsNumber then some ⟨inB n (-1000000000) 1000000000, fun y => ⟨.bool y, [], []⟩⟩ else none
 | _, _ => none
noncomputable def lsNm (t s : List UInt8) (bad : Bool) (room : Int) : Nat → St → Option LRes := fun id _ => match id with
 | 0 => some ⟨(), fun _ => .one { keep := [0, 2, 3], wr := [0] } (stNm t (pos' t s : Nat) bad room (pos' t s : Nat)) (.exit 0) (stNm t (pos' t (s.dropWhile nmC) : Nat) bad room (pos' t s : Nat))⟩
 | _ => none
set_option maxRecDepth 100000 in
theorem numberT (a : Int × Bool) (t s : List UInt8) (bad : Bool) (room : Int) : fnT { P := Tryz.prog, vw := vwA, res := resNm a, ls := lsNm t s bad room } 0 fNumber [.ptr 0 0] [rdI t (pos' t s : Nat) bad room] = (
 .bind PUnit.unit fun _ => .need [St.mk (mkTm 83 [(0, .ptr 0 0), (2, .ptr 1 0), (3, .int .i64 (↑(pos' t s) : Int))]) [rdI t (↑(pos' t s) : Int) bad room, zJ] [0] = St.mk (mkTm 83 [(0, .ptr 0 0), (2, .ptr 1 0), (3, .int .i64 (↑(pos' t s) :
 Int))]) [rdI t (↑(pos' t s) : Int) bad room, zJ] [0], SoundC Tryz.prog 1 (blk Tryz.prog fNumber 0) (St.mk (mkTm 83 [(0, .ptr 0 0), (2, .ptr 1 0), (3, .int .i64 (↑(pos' t s) : Int))]) [rdI t (↑(pos' t s) : Int) bad room, zJ] [0]) (Ex.exit 0)
 (St.mk (mkTm 83 [(0, .ptr 0 0), (2, .ptr 1 0), (3, .int .i64 (↑(pos' t s) : Int))]) [rdI t (↑(pos' t (List.dropWhile nmC s)) : Int) bad room, zJ] [0])] (.need [(0 : Int) ≤ (↑(pos' t (List.dropWhile nmC s)) : Int) ∧ (↑(pos' t (List.dropWhile
 nmC s)) : Int) ≤ (↑t.length : Int), (0 : Int) ≤ (↑(pos' t s) : Int) ∧ (↑(pos' t s) : Int) ≤ (↑(Int.toNat (↑(pos' t (List.dropWhile nmC s)) : Int)) : Int)] (.bind a fun y1 => .need [FnOK Tryz.prog 101 [.str (List.drop (Int.toNat (↑(pos' t s)
 : Int)) (List.take (Int.toNat (↑(pos' t (List.dropWhile nmC s)) : Int)) t))] [] (Ret.mk (.tup [.int .i64 y1.1, .bool y1.2]) [] [])] (bif bad then .done (Ret.mk (.agg [.int .i64 2, .int .i64 y1.1, .str [], .dsl 0 false [], .dsl 0 false []])
 [rdI t (↑(pos' t (List.dropWhile nmC s)) : Int) true room] [0]) else bif !y1.2 then .done (Ret.mk (.agg [.int .i64 2, .int .i64 y1.1, .str [], .dsl 0 false [], .dsl 0 false []]) [rdI t (↑(pos' t (List.dropWhile nmC s)) : Int) true room]
 [0]) else .bind (inB y1.1 (-1000000000 : Int) (1000000000 : Int)) fun y2 => .need [FnOK Tryz.prog 88 [.int .i64 y1.1] [] (Ret.mk (.bool y2) [] [])] (.done (Ret.mk (.agg [.int .i64 2, .int .i64 y1.1, .str [], .dsl 0 false [], .dsl 0 false
 []]) [rdI t (↑(pos' t (List.dropWhile nmC s)) : Int) (!y2) room] [0]))))) : T _) := (T.force_eq _).symm.trans (by kernel_rfl)
def nmJ (s : List UInt8) : J := .mk 2 (rdN (s.takeWhile nmC)).1 [] [] []
def nmB (bad : Bool) (s : List UInt8) : Bool := bad || !(rdN (s.takeWhile nmC)).2 || !inB (rdN (s.takeWhile nmC)).1 (-1000000000) 1000000000
theorem number_ok (hA : AtoiOK) {t s : List UInt8} (ht : t.length ≤ 1048576) (h : s <:+ t) (bad : Bool) (room : Int) : FnOK Tryz.prog fNumber [.ptr 0 0] [rdI t (pos' t s : Nat) bad room] ⟨.agg (vwJ (nmJ s)), [rdI t (pos' t (s.dropWhile nmC) : Nat) (nmB bad s) room], [0]⟩ := by
 refine fnOK_TL (E := { P := Tryz.prog, vw := vwA, res := resNm (rdN (s.takeWhile nmC)), ls := lsNm t s bad room }) follows named (numberT (rdN (s.takeWhile nmC)) t s bad room) (by simp) ?_
 simp only [WP_cond, T.WP, All, and_true, Int.toNat_natCast]
 obtain ⟨e1, e2, e3⟩ := tok_at h nmC
 rw [e1]
 rintro - -
 refine ⟨⟨trivial, .loopTo (num_loop ht bad room _ s h)⟩, ⟨by omega, by omega⟩, ?_⟩
 rintro y rfl
 have e : ∀ b, b = nmB bad s → RetLe ⟨.agg [.int .i64 2, .int .i64 (rdN (s.takeWhile nmC)).1, .str [], .dsl 0 false [], .dsl 0 false []], [rdI t (pos' t (s.dropWhile nmC) : Nat) b room], [0]⟩ ⟨.agg (vwJ (nmJ s)), [rdI t (pos' t (s.dropWhile nmC) : Nat) (nmB bad s) room], [0]⟩ := by
  rintro _ rfl; exact ⟨rfl, rfl, by simp⟩
 refine ⟨readN_ok hA _ (by have := (List.takeWhile_prefix (l := s) nmC).length_le; have := h.length_le; omega), fun h1 => e _ (by unfold nmB; rw [h1]; rfl), fun h1 => ⟨fun h2 => e _ (by unfold nmB; rw [h2, h1]; rfl), fun h2 => ?_⟩⟩
 rintro y rfl
 exact ⟨isNumber_ok _, e _ (by unfold nmB; rw [h2, h1]; rfl)⟩
end Go.Proofs.YtfncaghjfgnnhaaGreatDoor

namespace Go.Proofs.YtfncaghjfgnnhaaGreatDoor
open Go.RowKit
set_option maxRecDepth 100000
abbrev fSNum : Nat := 72
abbrev fL0Num : Nat := 94
def stN0 (s : List UInt8) (sg n i : Int) : St := ⟨mkTm 66 [(0, .str s), (2, .int .i64 0), (3, .bool false), (4, .int .i64 sg), (5, .int .i64 n), (6, .int .i64 i)], [], []⟩
def nfL0 : Ex → Kp := fun ex => match ex with
 | .ret => { keep := [2, 3] }
 | .normal => { keep := [0, 2, 3, 4, 5, 6] }
 | .exit _ => { keep := [4, 5] }
set_option maxRecDepth 100000 in
theorem l0L0 (s : List UInt8) (sg n i : Int) : bodyT E0 0 nfL0 (lp Tryz.prog fL0Num 0) (stN0 s sg n i) = (
 bif decide (i < (↑s.length : Int)) then .need [0 ≤ i ∧ i < (↑s.length : Int)] (bif decide ((↑(UInt8.toNat (List.getD s (Int.toNat i) (0 : UInt8))) : Int) < 48) then .done (Ex.ret, St.mk (mkTm 66 [(2, .int .i64 0), (3, .bool false)]) [] [])
 else .need [0 ≤ i ∧ i < (↑s.length : Int)] (bif decide ((↑(UInt8.toNat (List.getD s (Int.toNat i) (0 : UInt8))) : Int) > 57) then .done (Ex.ret, St.mk (mkTm 66 [(2, .int .i64 0), (3, .bool false)]) [] []) else .need [0 ≤ i ∧ i < (↑s.length
 : Int)] (.done (Ex.normal, St.mk (mkTm 66 [(0, .str s), (2, .int .i64 0), (3, .bool false), (4, .int .i64 sg), (5, .int .i64 (IntKind.wrap IntKind.i64 (IntKind.wrap IntKind.i64 (IntKind.wrap IntKind.i64 (n * 10) + IntKind.wrap IntKind.i64
 (↑(UInt8.toNat (List.getD s (Int.toNat i) (0 : UInt8))) : Int)) - 48))), (6, .int .i64 (IntKind.wrap IntKind.i64 (i + 1)))]) [] [])))) else .done (Ex.exit 0, St.mk (mkTm 66 [(4, .int .i64 sg), (5, .int .i64 n)]) [] []) : T _) := by kernel_rfl
def dgC (c : UInt8) : Bool := dgtI (c.toNat : Nat)
def dgV (s : List UInt8) : Nat := s.foldl (fun n c => n * 10 + (c.toNat - 48)) 0
noncomputable def lsL0 (_ : List UInt8) : Nat → St → Option LRes := fun id x => match id, x.tm.get 0, x.tm.get 4 with
 | 0, .str s, .int _ sg => some ⟨(), fun _ => .two { keep := [0, 2, 3, 4, 5, 6] } (stN0 s sg 0 0) (s.all dgC) (.exit 0) ⟨mkTm 66 [(4, .int .i64 sg), (5, .int .i64 (dgV s : Nat))], [], []⟩ .ret ⟨mkTm 66 [(2, .int .i64 0), (3, .bool false)], [], []⟩⟩
 | _, _, _ => none
set_option maxRecDepth 100000 in
theorem l0T (s : List UInt8) : fnT { P := Tryz.prog, vw := vwA, res := res0, ls := lsL0 s } 0 fL0Num [.str s] [] =
 bif decide ((↑(List.length s) : Int) > (0 : Int)) then
 T.need [(0 : Int) ≤ (0 : Int) ∧ (0 : Int) < (↑(List.length s) : Int)]
 (bif (↑(UInt8.toNat (List.getD s 0 (0 : UInt8))) : Int) == (45 : Int) then
 T.need [(0 : Int) ≤ (1 : Int) ∧ (1 : Int) ≤ (↑(List.length s) : Int)]
 (bif (↑(List.length (List.drop 1 (List.take (List.length s) s))) : Int) == (0 : Int) then T.done (Ret.mk (V.tup [V.int IntKind.i64 (0 : Int), V.bool false]) [] [])
 else
 bif decide ((↑(List.length (List.drop 1 (List.take (List.length s) s))) : Int) > (18 : Int)) then T.done (Ret.mk (V.tup [V.int IntKind.i64 (0 : Int), V.bool false]) [] [])
 else
 T.need [(0 : Int) ≤ (0 : Int) ∧ (0 : Int) < (↑(List.length (List.drop 1 (List.take (List.length s) s))) : Int)]
 (bif (↑(UInt8.toNat (List.getD (List.drop 1 (List.take (List.length s) s)) 0 (0 : UInt8))) : Int) == (48 : Int) then
 bif decide ((↑(List.length (List.drop 1 (List.take (List.length s) s))) : Int) > (1 : Int)) then T.done (Ret.mk (V.tup [V.int IntKind.i64 (0 : Int), V.bool false]) [] [])
 else T.done (Ret.mk (V.tup [V.int IntKind.i64 (0 : Int), V.bool false]) [] [])
 else
 T.bind PUnit.unit fun _ =>
 T.need
 [St.mk
 (mkTm 66
 [(0, V.str (List.drop 1 (List.take (List.length s) s))), (2, V.int IntKind.i64 (0 : Int)), (3, V.bool false), (4, V.int IntKind.i64 (-1 : Int)),
 (5, V.int IntKind.i64 (0 : Int)), (6, V.int IntKind.i64 (0 : Int))])
 [] [] =
 St.mk
 (mkTm 66
 [(0, V.str (List.drop 1 (List.take (List.length s) s))), (2, V.int IntKind.i64 (0 : Int)), (3, V.bool false), (4, V.int IntKind.i64 (-1 : Int)),
 (5, V.int IntKind.i64 (0 : Int)), (6, V.int IntKind.i64 (0 : Int))])
 [] []]
 (bif List.all (List.drop 1 (List.take (List.length s) s)) dgC then
 T.need
 [SoundC (Env.P (Env.mk Tryz.prog vwA res0 (lsL0 s) [] [] none (MapE.mk (fun _ _ _ => none) fun _ _ _ _ => none) fun _ _ _ _ _ => none)) 0 (blk Tryz.prog fL0Num 0)
 (St.mk
 (mkTm 66
 [(0, V.str (List.drop 1 (List.take (List.length s) s))), (2, V.int IntKind.i64 (0 : Int)), (3, V.bool false), (4, V.int IntKind.i64 (-1 : Int)),
 (5, V.int IntKind.i64 (0 : Int)), (6, V.int IntKind.i64 (0 : Int))])
 [] [])
 (Ex.exit 0)
 (St.mk (mkTm 66 [(4, V.int IntKind.i64 (-1 : Int)), (5, V.int IntKind.i64 (↑(dgV (List.drop 1 (List.take (List.length s) s))) : Int))]) [] [])]
 (T.done (Ret.mk (V.tup [V.int IntKind.i64 (IntKind.wrap IntKind.i64 ((-1 : Int) * (↑(dgV (List.drop 1 (List.take (List.length s) s))) : Int))), V.bool true]) [] []))
 else
 T.need
 [SoundC (Env.P (Env.mk Tryz.prog vwA res0 (lsL0 s) [] [] none (MapE.mk (fun _ _ _ => none) fun _ _ _ _ => none) fun _ _ _ _ _ => none)) 0 (blk Tryz.prog fL0Num 0)
 (St.mk
 (mkTm 66
 [(0, V.str (List.drop 1 (List.take (List.length s) s))), (2, V.int IntKind.i64 (0 : Int)), (3, V.bool false), (4, V.int IntKind.i64 (-1 : Int)),
 (5, V.int IntKind.i64 (0 : Int)), (6, V.int IntKind.i64 (0 : Int))])
 [] [])
 Ex.ret (St.mk (mkTm 66 [(2, V.int IntKind.i64 (0 : Int)), (3, V.bool false)]) [] [])]
 (T.done (Ret.mk (V.tup [V.int IntKind.i64 (0 : Int), V.bool false]) [] [])))))
 else
 bif (↑(List.length s) : Int) == (0 : Int) then T.done (Ret.mk (V.tup [V.int IntKind.i64 (0 : Int), V.bool false]) [] [])
 else
 bif decide ((↑(List.length s) : Int) > (18 : Int)) then T.done (Ret.mk (V.tup [V.int IntKind.i64 (0 : Int), V.bool false]) [] [])
 else
 T.need [(0 : Int) ≤ (0 : Int) ∧ (0 : Int) < (↑(List.length s) : Int)]
 (bif (↑(UInt8.toNat (List.getD s 0 (0 : UInt8))) : Int) == (48 : Int) then
 bif decide ((↑(List.length s) : Int) > (1 : Int)) then T.done (Ret.mk (V.tup [V.int IntKind.i64 (0 : Int), V.bool false]) [] [])
 else
 T.bind PUnit.unit fun _ =>
 T.need
 [St.mk
 (mkTm 66
 [(0, V.str s), (2, V.int IntKind.i64 (0 : Int)), (3, V.bool false), (4, V.int IntKind.i64 (1 : Int)), (5, V.int IntKind.i64 (0 : Int)),
 (6, V.int IntKind.i64 (0 : Int))])
 [] [] =
 St.mk
 (mkTm 66
 [(0, V.str s), (2, V.int IntKind.i64 (0 : Int)), (3, V.bool false), (4, V.int IntKind.i64 (1 : Int)), (5, V.int IntKind.i64 (0 : Int)),
 (6, V.int IntKind.i64 (0 : Int))])
 [] []]
 (bif List.all s dgC then
 T.need
 [SoundC (Env.P (Env.mk Tryz.prog vwA res0 (lsL0 s) [] [] none (MapE.mk (fun _ _ _ => none) fun _ _ _ _ => none) fun _ _ _ _ _ => none)) 0 (blk Tryz.prog fL0Num 0)
 (St.mk
 (mkTm 66
 [(0, V.str s), (2, V.int IntKind.i64 (0 : Int)), (3, V.bool false), (4, V.int IntKind.i64 (1 : Int)), (5, V.int IntKind.i64 (0 : Int)),
 (6, V.int IntKind.i64 (0 : Int))])
 [] [])
 (Ex.exit 0) (St.mk (mkTm 66 [(4, V.int IntKind.i64 (1 : Int)), (5, V.int IntKind.i64 (↑(dgV s) : Int))]) [] [])]
 (T.done (Ret.mk (V.tup [V.int IntKind.i64 (IntKind.wrap IntKind.i64 ((1 : Int) * (↑(dgV s) : Int))), V.bool true]) [] []))
 else
 T.need
 [SoundC (Env.P (Env.mk Tryz.prog vwA res0 (lsL0 s) [] [] none (MapE.mk (fun _ _ _ => none) fun _ _ _ _ => none) fun _ _ _ _ _ => none)) 0 (blk Tryz.prog fL0Num 0)
 (St.mk
 (mkTm 66
 [(0, V.str s), (2, V.int IntKind.i64 (0 : Int)), (3, V.bool false), (4, V.int IntKind.i64 (1 : Int)), (5, V.int IntKind.i64 (0 : Int)),
 (6, V.int IntKind.i64 (0 : Int))])
 [] [])
 Ex.ret (St.mk (mkTm 66 [(2, V.int IntKind.i64 (0 : Int)), (3, V.bool false)]) [] [])]
 (T.done (Ret.mk (V.tup [V.int IntKind.i64 (0 : Int), V.bool false]) [] [])))
 else
 T.bind PUnit.unit fun _ =>
 T.need
 [St.mk
 (mkTm 66
 [(0, V.str s), (2, V.int IntKind.i64 (0 : Int)), (3, V.bool false), (4, V.int IntKind.i64 (1 : Int)), (5, V.int IntKind.i64 (0 : Int)),
 (6, V.int IntKind.i64 (0 : Int))])
 [] [] =
 St.mk
 (mkTm 66
 [(0, V.str s), (2, V.int IntKind.i64 (0 : Int)), (3, V.bool false), (4, V.int IntKind.i64 (1 : Int)), (5, V.int IntKind.i64 (0 : Int)),
 (6, V.int IntKind.i64 (0 : Int))])
 [] []]
 (bif List.all s dgC then
 T.need
 [SoundC (Env.P (Env.mk Tryz.prog vwA res0 (lsL0 s) [] [] none (MapE.mk (fun _ _ _ => none) fun _ _ _ _ => none) fun _ _ _ _ _ => none)) 0 (blk Tryz.prog fL0Num 0)
 (St.mk
 (mkTm 66
 [(0, V.str s), (2, V.int IntKind.i64 (0 : Int)), (3, V.bool false), (4, V.int IntKind.i64 (1 : Int)), (5, V.int IntKind.i64 (0 : Int)),
 (6, V.int IntKind.i64 (0 : Int))])
 [] [])
 (Ex.exit 0) (St.mk (mkTm 66 [(4, V.int IntKind.i64 (1 : Int)), (5, V.int IntKind.i64 (↑(dgV s) : Int))]) [] [])]
 (T.done (Ret.mk (V.tup [V.int IntKind.i64 (IntKind.wrap IntKind.i64 ((1 : Int) * (↑(dgV s) : Int))), V.bool true]) [] []))
 else
 T.need
 [SoundC (Env.P (Env.mk Tryz.prog vwA res0 (lsL0 s) [] [] none (MapE.mk (fun _ _ _ => none) fun _ _ _ _ => none) fun _ _ _ _ _ => none)) 0 (blk Tryz.prog fL0Num 0)
 (St.mk
 (mkTm 66
 [(0, V.str s), (2, V.int IntKind.i64 (0 : Int)), (3, V.bool false), (4, V.int IntKind.i64 (1 : Int)), (5, V.int IntKind.i64 (0 : Int)),
 (6, V.int IntKind.i64 (0 : Int))])
 [] [])
 Ex.ret (St.mk (mkTm 66 [(2, V.int IntKind.i64 (0 : Int)), (3, V.bool false)]) [] [])]
 (T.done (Ret.mk (V.tup [V.int IntKind.i64 (0 : Int), V.bool false]) [] [])))))
 else
 bif (↑(List.length s) : Int) == (0 : Int) then T.done (Ret.mk (V.tup [V.int IntKind.i64 (0 : Int), V.bool false]) [] [])
 else
 bif decide ((↑(List.length s) : Int) > (18 : Int)) then T.done (Ret.mk (V.tup [V.int IntKind.i64 (0 : Int), V.bool false]) [] [])
 else
 T.need [(0 : Int) ≤ (0 : Int) ∧ (0 : Int) < (↑(List.length s) : Int)]
 (bif (↑(UInt8.toNat (List.getD s 0 (0 : UInt8))) : Int) == (48 : Int) then
 bif decide ((↑(List.length s) : Int) > (1 : Int)) then T.done (Ret.mk (V.tup [V.int IntKind.i64 (0 : Int), V.bool false]) [] [])
 else
 T.bind PUnit.unit fun _ =>
 T.need
 [St.mk
 (mkTm 66
 [(0, V.str s), (2, V.int IntKind.i64 (0 : Int)), (3, V.bool false), (4, V.int IntKind.i64 (1 : Int)), (5, V.int IntKind.i64 (0 : Int)),
 (6, V.int IntKind.i64 (0 : Int))])
 [] [] =
 St.mk
 (mkTm 66
 [(0, V.str s), (2, V.int IntKind.i64 (0 : Int)), (3, V.bool false), (4, V.int IntKind.i64 (1 : Int)), (5, V.int IntKind.i64 (0 : Int)),
 (6, V.int IntKind.i64 (0 : Int))])
 [] []]
 (bif List.all s dgC then
 T.need
 [SoundC (Env.P (Env.mk Tryz.prog vwA res0 (lsL0 s) [] [] none (MapE.mk (fun _ _ _ => none) fun _ _ _ _ => none) fun _ _ _ _ _ => none)) 0 (blk Tryz.prog fL0Num 0)
 (St.mk
 (mkTm 66
 [(0, V.str s), (2, V.int IntKind.i64 (0 : Int)), (3, V.bool false), (4, V.int IntKind.i64 (1 : Int)), (5, V.int IntKind.i64 (0 : Int)),
 (6, V.int IntKind.i64 (0 : Int))])
 [] [])
 (Ex.exit 0) (St.mk (mkTm 66 [(4, V.int IntKind.i64 (1 : Int)), (5, V.int IntKind.i64 (↑(dgV s) : Int))]) [] [])]
 (T.done (Ret.mk (V.tup [V.int IntKind.i64 (IntKind.wrap IntKind.i64 ((1 : Int) * (↑(dgV s) : Int))), V.bool true]) [] []))
 else
 T.need
 [SoundC (Env.P (Env.mk Tryz.prog vwA res0 (lsL0 s) [] [] none (MapE.mk (fun _ _ _ => none) fun _ _ _ _ => none) fun _ _ _ _ _ => none)) 0 (blk Tryz.prog fL0Num 0)
 (St.mk
 (mkTm 66
 [(0, V.str s), (2, V.int IntKind.i64 (0 : Int)), (3, V.bool false), (4, V.int IntKind.i64 (1 : Int)), (5, V.int IntKind.i64 (0 : Int)),
 (6, V.int IntKind.i64 (0 : Int))])
 [] [])
 Ex.ret (St.mk (mkTm 66 [(2, V.int IntKind.i64 (0 : Int)), (3, V.bool false)]) [] [])]
 (T.done (Ret.mk (V.tup [V.int IntKind.i64 (0 : Int), V.bool false]) [] [])))
 else
 T.bind PUnit.unit fun _ =>
 T.need
 [St.mk
 (mkTm 66
 [(0, V.str s), (2, V.int IntKind.i64 (0 : Int)), (3, V.bool false), (4, V.int IntKind.i64 (1 : Int)), (5, V.int IntKind.i64 (0 : Int)),
 (6, V.int IntKind.i64 (0 : Int))])
 [] [] =
 St.mk
 (mkTm 66
 [(0, V.str s), (2, V.int IntKind.i64 (0 : Int)), (3, V.bool false), (4, V.int IntKind.i64 (1 : Int)), (5, V.int IntKind.i64 (0 : Int)),
 (6, V.int IntKind.i64 (0 : Int))])
 [] []]
 (bif List.all s dgC then
 T.need
 [SoundC (Env.P (Env.mk Tryz.prog vwA res0 (lsL0 s) [] [] none (MapE.mk (fun _ _ _ => none) fun _ _ _ _ => none) fun _ _ _ _ _ => none)) 0 (blk Tryz.prog fL0Num 0)
 (St.mk
 (mkTm 66
 [(0, V.str s), (2, V.int IntKind.i64 (0 : Int)), (3, V.bool false), (4, V.int IntKind.i64 (1 : Int)), (5, V.int IntKind.i64 (0 : Int)),
 (6, V.int IntKind.i64 (0 : Int))])
 [] [])
 (Ex.exit 0) (St.mk (mkTm 66 [(4, V.int IntKind.i64 (1 : Int)), (5, V.int IntKind.i64 (↑(dgV s) : Int))]) [] [])]
 (T.done (Ret.mk (V.tup [V.int IntKind.i64 (IntKind.wrap IntKind.i64 ((1 : Int) * (↑(dgV s) : Int))), V.bool true]) [] []))
 else
 T.need
 [SoundC (Env.P (Env.mk Tryz.prog vwA res0 (lsL0 s) [] [] none (MapE.mk (fun _ _ _ => none) fun _ _ _ _ => none) fun _ _ _ _ _ => none)) 0 (blk Tryz.prog fL0Num 0)
 (St.mk
 (mkTm 66
 [(0, V.str s), (2, V.int IntKind.i64 (0 : Int)), (3, V.bool false), (4, V.int IntKind.i64 (1 : Int)), (5, V.int IntKind.i64 (0 : Int)),
 (6, V.int IntKind.i64 (0 : Int))])
 [] [])
 Ex.ret (St.mk (mkTm 66 [(2, V.int IntKind.i64 (0 : Int)), (3, V.bool false)]) [] [])]
 (T.done (Ret.mk (V.tup [V.int IntKind.i64 (0 : Int), V.bool false]) [] [])))) := by kernel_rfl
def stSNm (t : List UInt8) (i n : Int) (ok : Bool) (fr : Int) : St := ⟨mkTm 106 [(0, .ptr 0 0), (2, .int .i64 0), (3, .int .i64 fr)], [sdI t i n ok], [0]⟩
noncomputable def resSD : ResT := fun f vs hp => match vs, hp with
 | [.int _ n], [] => bif Nat.beq f fSDgt then some ⟨dgtI n, fun y => ⟨.bool y, [], []⟩⟩ else none
 | _, _ => none
noncomputable def ESD : Env := { P := Tryz.prog, vw := vwA, res := resSD }
--FOLD sdI
set_option maxRecDepth 100000 in
theorem snumL0 (t : List UInt8) (i n : Int) (ok : Bool) (fr : Int) : bodyT ESD 1 nfNm (lp Tryz.prog fSNum 0) (stSNm t i n ok fr) = (
 bif decide (i < (↑t.length : Int)) then .need [0 ≤ i ∧ i < (↑t.length : Int)] (.bind (dgtI (↑(UInt8.toNat (List.getD t (Int.toNat i) (0 : UInt8))) : Int)) fun y0 => .need [FnOK (Env.P ESD) 93 [.int .u8 (↑(UInt8.toNat (List.getD t (Int.toNat
 i) (0 : UInt8))) : Int)] [] (Ret.mk (.bool y0) [] [])] (bif y0 then .done (Ex.normal, St.mk (mkTm 106 [(0, .ptr 0 0), (2, .int .i64 0), (3, .int .i64 fr)]) [sdI t (IntKind.wrap IntKind.i64 (i + 1)) n ok] [0]) else .done (Ex.exit 0, St.mk
 (mkTm 106 [(0, .ptr 0 0), (2, .int .i64 0), (3, .int .i64 fr)]) [sdI t i n ok] [0]))) else .done (Ex.exit 0, St.mk (mkTm 106 [(0, .ptr 0 0), (2, .int .i64 0), (3, .int .i64 fr)]) [sdI t i n ok] [0]) : T _) := by kernel_rfl
theorem dgC_bd {c : UInt8} (h : dgC c = true) : 48 ≤ c.toNat ∧ c.toNat ≤ 57 := by
 unfold dgC dgtI at h
 rw [Bool.and_eq_true, decide_eq_true_eq, decide_eq_true_eq] at h
 omega
theorem dgV_snoc (l : List UInt8) (c : UInt8) : dgV (l ++ [c]) = dgV l * 10 + (c.toNat - 48) := by unfold dgV; rw [List.foldl_append]; rfl
theorem dgV_step {s : List UInt8} {i : Nat} (h : i < s.length) : dgV (s.take (i + 1)) = dgV (s.take i) * 10 + ((s.getD i 0).toNat - 48) := by
 rw [← dgV_snoc]
 congr 1
 rw [List.getD_eq_getElem?_getD, List.getElem?_eq_getElem h]
 exact List.take_succ_eq_append_getElem h
theorem dgV_lt {s : List UInt8} (hs : ∀ c ∈ s, dgC c = true) : ∀ i, i ≤ s.length → dgV (s.take i) < 10 ^ i
 | 0, _ => by simp [dgV]
 | i + 1, h => by
  have ih := dgV_lt hs i (by omega)
  have hc := dgC_bd (hs (s.getD i 0) (by rw [List.getD_eq_getElem?_getD, List.getElem?_eq_getElem (by omega)]; exact List.getElem_mem _))
  rw [dgV_step (by omega), Nat.pow_succ]
  omega
theorem l0_loop {s : List UInt8} (hs : ∀ c ∈ s, dgC c = true) (hl : s.length ≤ 18) (sg : Int) : ∀ (m i : Nat), i + m = s.length →
  LoopTo Tryz.prog 0 (lp Tryz.prog fL0Num 0) (stN0 s sg (dgV (s.take i) : Nat) i) (.exit 0) ⟨mkTm 66 [(4, .int .i64 sg), (5, .int .i64 (dgV s : Nat))], [], []⟩
 | 0, i, h => by
  obtain rfl : i = s.length := h
  refine loopT (E := E0) follows named (l0L0 s sg _ _) ?_
  simp only [WP_cond, T.WP, All, decide_eq_true_eq, decide_eq_false_iff_not, and_true]
  refine ⟨fun h => by omega, fun _ => ⟨rfl, ?_⟩⟩
  rw [List.take_length]
 | m + 1, i, h => by
  refine loopT (E := E0) follows named (l0L0 s sg (dgV (s.take i) : Nat) i) ?_
  have hc := dgC_bd (hs (s.getD i 0) (by rw [List.getD_eq_getElem?_getD, List.getElem?_eq_getElem (by omega)]; exact List.getElem_mem _))
  have hb := dgV_lt hs i (by omega)
  have hp : 10 ^ i ≤ 10 ^ 17 := Nat.pow_le_pow_right (by decide) (by omega)
  have e17 : (10 : Nat) ^ 17 = 100000000000000000 := by decide
  have ih := l0_loop hs hl sg m (i + 1) (by omega)
  rw [dgV_step (by omega)] at ih
  simp only [WP_cond, T.WP, All, decide_eq_true_eq, decide_eq_false_iff_not, and_true, Int.toNat_natCast, wrap_succ (show i < 9223372036854775807 by omega)]
  generalize (s.getD i 0).toNat = u at *
  generalize dgV (s.take i) = v at *
  have w1 : IntKind.i64.wrap (IntKind.i64.wrap (IntKind.i64.wrap ((v : Int) * 10) + IntKind.i64.wrap (u : Int)) - 48) = ((v * 10 + (u - 48) : Nat) : Int) := by
   rw [wrap_id (n := (v : Int) * 10) (by omega), wrap_id (n := (u : Int)) (by omega), wrap_id (n := (v : Int) * 10 + u) (by omega), wrap_id (by omega)]
   omega
  rw [w1]
  exact ⟨fun _ => ⟨by omega, fun h => by omega, fun _ => ⟨by omega, fun h => by omega, fun _ => ⟨by omega, ih⟩⟩⟩, fun h => by omega⟩
def l0N (neg : Bool) (ds : List UInt8) : Int × Bool :=
 if ds.length = 0 ∨ 18 < ds.length ∨ (ds.getD 0 0 = 48 ∧ (1 < ds.length ∨ neg = true)) then (0, false) else (if neg then -((dgV ds : Nat) : Int) else ((dgV ds : Nat) : Int), true)
def l0S (neg : Bool) (ds : List UInt8) : List UInt8 := if neg then 45 :: ds else ds
theorem u48 (c : UInt8) : (((c.toNat : Nat) : Int) = 48) ↔ c = 48 := by
 rw [← UInt8.toNat_inj]
 have : (48 : UInt8).toNat = 48 := rfl
 omega
theorem l0_ok (neg : Bool) (ds : List UInt8) (hs : ∀ c ∈ ds, dgC c = true) (hlen : ds.length ≤ 1048576) : FnOK Tryz.prog fL0Num [.str (l0S neg ds)] [] ⟨.tup [.int .i64 (l0N neg ds).1, .bool (l0N neg ds).2], [], []⟩ := by
 refine fnOK_TL (E := { P := Tryz.prog, vw := vwA, res := res0, ls := lsL0 (l0S neg ds) }) follows named (l0T (l0S neg ds)) (by simp) ?_
 have hall : ds.all dgC = true := List.all_eq_true.2 hs
 have hlp := fun sg hl => l0_loop hs hl sg ds.length 0 (by omega)
 have hb : ds.length ≤ 18 → dgV ds < 1000000000000000000 := fun hl => by
  have := dgV_lt hs ds.length (Nat.le_refl _)
  rw [List.take_length] at this
  have hp : 10 ^ ds.length ≤ 10 ^ 18 := Nat.pow_le_pow_right (by decide) hl
  have e18 : (10 : Nat) ^ 18 = 1000000000000000000 := by decide
  omega
 cases neg with
 | true =>
  have e1 : l0S true ds = 45 :: ds := rfl
  rw [e1]
  have e2 : List.drop 1 (List.take (45 :: ds).length (45 :: ds)) = ds := by rw [List.take_length]; rfl
  have e3 : ((45 :: ds).getD 0 0) = 45 := rfl
  simp only [WP_cond, T.WP, All, decide_eq_true_eq, decide_eq_false_iff_not, and_true, beq_iff_eq, beq_eq_false_iff_ne, ne_eq, e2, e3, hall]
  have e4 : (((45 : UInt8).toNat : Nat) : Int) = 45 := rfl
  simp only [e4, List.length_cons, u48]
  refine ⟨fun _ => ⟨by omega, fun _ => ⟨by omega, fun h0 => ?_, fun h0 => ⟨fun h1 => ?_, fun h1 => ⟨by omega, fun h2 => ⟨fun h3 => ?_, fun h3 => ?_⟩, fun h2 => ?_⟩⟩⟩, fun h => absurd trivial h⟩, fun h => by omega⟩
  ·rw [l0N, if_pos (by omega)]; exact ⟨rfl, rfl, by simp⟩
  ·rw [l0N, if_pos (by omega)]; exact ⟨rfl, rfl, by simp⟩
  ·rw [l0N, if_pos (.inr (.inr ⟨h2, .inr rfl⟩))]; exact ⟨rfl, rfl, by simp⟩
  ·rw [l0N, if_pos (.inr (.inr ⟨h2, .inr rfl⟩))]; exact ⟨rfl, rfl, by simp⟩
  ·rintro y -
   refine ⟨trivial, fun _ => ⟨.loopTo (hlp (-1) (by omega)), ?_⟩, fun h => by cases h⟩
   have := hb (by omega)
   have hn : ¬ (ds.length = 0 ∨ 18 < ds.length ∨ (ds.getD 0 0 = 48 ∧ (1 < ds.length ∨ true = true))) := by
    rintro (h | h | ⟨h, _⟩)
    ·omega
    ·omega
    ·exact h2 h
   rw [l0N, if_neg hn, wrap_id (by omega)]
   rw [show (-1 : Int) * (dgV ds : Nat) = -((dgV ds : Nat) : Int) by omega]
   exact ⟨rfl, rfl, by simp⟩
 | false =>
  have e1 : l0S false ds = ds := rfl
  rw [e1]
  have hd0 : 0 < ds.length → ds.getD 0 0 ≠ 45 := fun h e => by
   have := dgC_bd (hs (ds.getD 0 0) (by rw [List.getD_eq_getElem?_getD, List.getElem?_eq_getElem h]; exact List.getElem_mem _))
   rw [e] at this
   have : (45 : UInt8).toNat = 45 := rfl
   omega
  have u45 : ∀ c : UInt8, (((c.toNat : Nat) : Int) = 45) ↔ c = 45 := fun c => by
   rw [← UInt8.toNat_inj]
   have : (45 : UInt8).toNat = 45 := rfl
   omega
  have fin : ¬ (ds.length = 0) → ¬ (ds.length > 18) → ¬ (ds.getD 0 0 = 48 ∧ 1 < ds.length) → RetLe ⟨.tup [.int .i64 (IntKind.i64.wrap (1 * ((dgV ds : Nat) : Int))), .bool true], [], []⟩ ⟨.tup [.int .i64 (l0N false ds).1, .bool (l0N false ds).2], [], []⟩ := fun h0 h1 h2 => by
   have := hb (by omega)
   have hn : ¬ (ds.length = 0 ∨ 18 < ds.length ∨ (ds.getD 0 0 = 48 ∧ (1 < ds.length ∨ false = true))) := by
    rintro (h | h | ⟨h, h' | h'⟩)
    ·exact h0 h
    ·exact h1 h
    ·exact h2 ⟨h, h'⟩
    ·cases h'
   rw [l0N, if_neg hn, wrap_id (by omega)]
   rw [show (1 : Int) * (dgV ds : Nat) = ((dgV ds : Nat) : Int) by omega]
   exact ⟨rfl, rfl, by simp⟩
  simp only [WP_cond, T.WP, All, decide_eq_true_eq, decide_eq_false_iff_not, and_true, beq_iff_eq, beq_eq_false_iff_ne, ne_eq, hall, u45, u48]
  refine ⟨fun hp => ⟨by omega, fun h => absurd h (hd0 (by omega)), fun _ => ⟨fun h0 => by omega, fun h0 => ⟨fun h1 => ?_, fun h1 => ⟨by omega, fun h2 => ⟨fun h3 => ?_, fun h3 => ?_⟩, fun h2 => ?_⟩⟩⟩⟩, fun hp => ⟨fun h0 => ?_, fun h0 => by omega⟩⟩
  ·rw [l0N, if_pos (by omega)]; exact ⟨rfl, rfl, by simp⟩
  ·rw [l0N, if_pos (.inr (.inr ⟨h2, .inl (by omega)⟩))]; exact ⟨rfl, rfl, by simp⟩
  ·rintro y -
   exact ⟨trivial, fun _ => ⟨.loopTo (hlp 1 (by omega)), fin (by omega) (by omega) (fun h => by omega)⟩, fun h => by cases h⟩
  ·rintro y -
   exact ⟨trivial, fun _ => ⟨.loopTo (hlp 1 (by omega)), fin (by omega) (by omega) (fun h => h2 h.1)⟩, fun h => by cases h⟩
  ·rw [l0N, if_pos (by omega)]; exact ⟨rfl, rfl, by simp⟩
end Go.Proofs.YtfncaghjfgnnhaaGreatDoor

namespace Go.Proofs.YtfncaghjfgnnhaaGreatDoor
open Go.RowKit
set_option maxRecDepth 100000
theorem snum_loop {t : List UInt8} (ht : t.length ≤ 4294967296) (n : Int) (ok : Bool) (fr : Int) : ∀ s : List UInt8, s <:+ t →
  LoopTo Tryz.prog 1 (lp Tryz.prog fSNum 0) (stSNm t (pos' t s : Nat) n ok fr) (.exit 0) ⟨mkTm 106 [(0, .ptr 0 0), (2, .int .i64 0), (3, .int .i64 fr)], [sdI t (pos' t (s.dropWhile dgC) : Nat) n ok], [0]⟩
 | [], h => by
  refine loopT (E := ESD) follows named (snumL0 t (pos' t [] : Nat) n ok fr) ?_
  rw [pos_nil]
  simp only [WP_cond, T.WP, All, decide_eq_true_eq, decide_eq_false_iff_not, and_true]
  refine ⟨fun h => by omega, fun _ => ⟨rfl, ?_⟩⟩
  rw [show ([] : List UInt8).dropWhile dgC = [] from rfl, pos_nil]
 | c :: s, h => by
  obtain ⟨h1, h2, h3⟩ := pos_cons h
  have ih := snum_loop ht n ok fr s (suf_tail h)
  have w1 : IntKind.i64.wrap (((pos' t (c :: s) : Nat) : Int) + 1) = (pos' t s : Nat) := by rw [wrap_succ (by omega), h2]
  refine loopT (E := ESD) follows named (snumL0 t (pos' t (c :: s) : Nat) n ok fr) ?_
  simp only [WP_cond, T.WP, All, decide_eq_true_eq, decide_eq_false_iff_not, and_true, Int.toNat_natCast, h1, w1]
  refine ⟨fun _ => ⟨by omega, ?_⟩, fun h => by omega⟩
  rintro y rfl
  refine ⟨sdigit_ok _, fun hd => ?_, fun hd => ?_⟩
  ·rw [List.dropWhile_cons_of_pos (show dgC c = true from hd)]
   exact ih
  ·rw [List.dropWhile_cons_of_neg (show ¬ dgC c = true by unfold dgC; rw [hd]; simp)]
   exact ⟨rfl, rfl⟩
def tokV : List UInt8 → Int × Bool
 | [] => l0N false []
 | c :: ds => if c = 45 then l0N true ds else l0N false (c :: ds)
noncomputable def resL0 : ResT := fun f vs hp => match vs, hp with
 | [.str s], [] => bif Nat.beq f fL0Num then some ⟨tokV s, fun y => ⟨.tup [.int .i64 y.1, .bool y.2], [], []⟩⟩ else none
 | _, _ => none
noncomputable def lsSN : Nat → St → Option LRes := fun id s => match id, s.tm.get 3, s.hp with
 | 0, .int _ fr, [some ([.str t, .int _ i, .int _ n, .bool ok], _)] => some ⟨(t.drop i.toNat).dropWhile dgC, fun y => .one { keep := [0, 2, 3], wr := [0] } (stSNm t i n ok fr) (.exit 0) ⟨mkTm 106 [(0, .ptr 0 0), (2, .int .i64 0), (3, .int .i64 fr)], [sdI t (pos' t y : Nat) n ok], [0]⟩⟩
 | _, _, _ => none
--FOLD sdI
set_option maxRecDepth 100000 in
theorem snumT (t : List UInt8) (i n : Int) (ok : Bool) : fnT { P := Tryz.prog, vw := vwA, res := resL0, ls := lsSN } 0 fSNum [.ptr 0 0] [sdI t i n ok] = (
 bif decide (i < (↑t.length : Int)) then .need [0 ≤ i ∧ i < (↑t.length : Int)] (bif (↑(UInt8.toNat (List.getD t (Int.toNat i) (0 : UInt8))) : Int) == 45 then .bind (List.dropWhile dgC (List.drop (Int.toNat (IntKind.wrap IntKind.i64 (i + 1)))
 t)) fun y0 => .need [St.mk (mkTm 106 [(0, .ptr 0 0), (2, .int .i64 0), (3, .int .i64 i)]) [sdI t (IntKind.wrap IntKind.i64 (i + 1)) n ok] [0] = St.mk (mkTm 106 [(0, .ptr 0 0), (2, .int .i64 0), (3, .int .i64 i)]) [sdI t (IntKind.wrap
 IntKind.i64 (i + 1)) n ok] [0], SoundC Tryz.prog 1 (blk Tryz.prog fSNum 0) (St.mk (mkTm 106 [(0, .ptr 0 0), (2, .int .i64 0), (3, .int .i64 i)]) [sdI t (IntKind.wrap IntKind.i64 (i + 1)) n ok] [0]) (Ex.exit 0) (St.mk (mkTm 106 [(0, .ptr 0
 0), (2, .int .i64 0), (3, .int .i64 i)]) [sdI t (↑(pos' t y0) : Int) n ok] [0])] (.need [(0 : Int) ≤ (↑(pos' t y0) : Int) ∧ (↑(pos' t y0) : Int) ≤ (↑t.length : Int), 0 ≤ i ∧ i ≤ (↑(Int.toNat (↑(pos' t y0) : Int)) : Int)] (.bind (tokV
 (List.drop (Int.toNat i) (List.take (Int.toNat (↑(pos' t y0) : Int)) t))) fun y1 => .need [FnOK Tryz.prog 94 [.str (List.drop (Int.toNat i) (List.take (Int.toNat (↑(pos' t y0) : Int)) t))] [] (Ret.mk (.tup [.int .i64 y1.1, .bool y1.2]) []
 [])] (bif ok then bif y1.2 then .need [(0 : Int) ≤ (↑(pos' t y0) : Int) ∧ (↑(pos' t y0) : Int) ≤ (↑t.length : Int), 0 ≤ i ∧ i ≤ (↑(Int.toNat (↑(pos' t y0) : Int)) : Int)] (.done (Ret.mk (.int .i64 y1.1) [sdI t (↑(pos' t y0) : Int) n
 !List.drop (Int.toNat i) (List.take (Int.toNat (↑(pos' t y0) : Int)) t) == [(45 : UInt8), 48]] [0])) else .done (Ret.mk (.int .i64 y1.1) [sdI t (↑(pos' t y0) : Int) n false] [0]) else .done (Ret.mk (.int .i64 y1.1) [sdI t (↑(pos' t y0) :
 Int) n false] [0])))) else .bind (List.dropWhile dgC (List.drop (Int.toNat i) t)) fun y2 => .need [St.mk (mkTm 106 [(0, .ptr 0 0), (2, .int .i64 0), (3, .int .i64 i)]) [sdI t i n ok] [0] = St.mk (mkTm 106 [(0, .ptr 0 0), (2, .int .i64 0),
 (3, .int .i64 i)]) [sdI t i n ok] [0], SoundC Tryz.prog 1 (blk Tryz.prog fSNum 0) (St.mk (mkTm 106 [(0, .ptr 0 0), (2, .int .i64 0), (3, .int .i64 i)]) [sdI t i n ok] [0]) (Ex.exit 0) (St.mk (mkTm 106 [(0, .ptr 0 0), (2, .int .i64 0), (3,
 .int .i64 i)]) [sdI t (↑(pos' t y2) : Int) n ok] [0])] (.need [(0 : Int) ≤ (↑(pos' t y2) : Int) ∧ (↑(pos' t y2) : Int) ≤ (↑t.length : Int), 0 ≤ i ∧ i ≤ (↑(Int.toNat (↑(pos' t y2) : Int)) : Int)] (.bind (tokV (List.drop (Int.toNat i)
 (List.take (Int.toNat (↑(pos' t y2) : Int)) t))) fun y3 => .need [FnOK Tryz.prog 94 [.str (List.drop (Int.toNat i) (List.take (Int.toNat (↑(pos' t y2) : Int)) t))] [] (Ret.mk (.tup [.int .i64 y3.1, .bool y3.2]) [] [])] (bif ok then bif y3.2
 then .need [(0 : Int) ≤ (↑(pos' t y2) : Int) ∧ (↑(pos' t y2) : Int) ≤ (↑t.length : Int), 0 ≤ i ∧ i ≤ (↑(Int.toNat (↑(pos' t y2) : Int)) : Int)] (.done (Ret.mk (.int .i64 y3.1) [sdI t (↑(pos' t y2) : Int) n !List.drop (Int.toNat i)
 (List.take (Int.toNat (↑(pos' t y2) : Int)) t) == [(45 : UInt8), 48]] [0])) else .done (Ret.mk (.int .i64 y3.1) [sdI t (↑(pos' t y2) : Int) n false] [0]) else .done (Ret.mk (.int .i64 y3.1) [sdI t (↑(pos' t y2) : Int) n false] [0]))))) else
 .bind (List.dropWhile dgC (List.drop (Int.toNat i) t)) fun y4 => .need [St.mk (mkTm 106 [(0, .ptr 0 0), (2, .int .i64 0), (3, .int .i64 i)]) [sdI t i n ok] [0] = St.mk (mkTm 106 [(0, .ptr 0 0), (2, .int .i64 0), (3, .int .i64 i)]) [sdI t i
 n ok] [0], SoundC Tryz.prog 1 (blk Tryz.prog fSNum 0) (St.mk (mkTm 106 [(0, .ptr 0 0), (2, .int .i64 0), (3, .int .i64 i)]) [sdI t i n ok] [0]) (Ex.exit 0) (St.mk (mkTm 106 [(0, .ptr 0 0), (2, .int .i64 0), (3, .int .i64 i)]) [sdI t (↑(pos'
 t y4) : Int) n ok] [0])] (.need [(0 : Int) ≤ (↑(pos' t y4) : Int) ∧ (↑(pos' t y4) : Int) ≤ (↑t.length : Int), 0 ≤ i ∧ i ≤ (↑(Int.toNat (↑(pos' t y4) : Int)) : Int)] (.bind (tokV (List.drop (Int.toNat i) (List.take (Int.toNat (↑(pos' t y4) :
 Int)) t))) fun y5 => .need [FnOK Tryz.prog 94 [.str (List.drop (Int.toNat i) (List.take (Int.toNat (↑(pos' t y4) : Int)) t))] [] (Ret.mk (.tup [.int .i64 y5.1, .bool y5.2]) [] [])] (bif ok then bif y5.2 then .need [(0 : Int) ≤ (↑(pos' t y4)
 : Int) ∧ (↑(pos' t y4) : Int) ≤ (↑t.length : Int), 0 ≤ i ∧ i ≤ (↑(Int.toNat (↑(pos' t y4) : Int)) : Int)] (.done (Ret.mk (.int .i64 y5.1) [sdI t (↑(pos' t y4) : Int) n !List.drop (Int.toNat i) (List.take (Int.toNat (↑(pos' t y4) : Int)) t)
 == [(45 : UInt8), 48]] [0])) else .done (Ret.mk (.int .i64 y5.1) [sdI t (↑(pos' t y4) : Int) n false] [0]) else .done (Ret.mk (.int .i64 y5.1) [sdI t (↑(pos' t y4) : Int) n false] [0])))) : T _) := by kernel_rfl
def snD : List UInt8 → Bool × List UInt8 × List UInt8
 | [] => (false, [], [])
 | c :: r => if c = 45 then (true, r.takeWhile dgC, r.dropWhile dgC) else (false, (c :: r).takeWhile dgC, (c :: r).dropWhile dgC)
def snV (s : List UInt8) : Int × Bool := l0N (snD s).1 (snD s).2.1
def snR (s : List UInt8) : List UInt8 := (snD s).2.2
theorem takeW_mem {p : UInt8 → Bool} : ∀ (l : List UInt8), ∀ c ∈ l.takeWhile p, p c = true
 | [], c, h => by cases h
 | a :: l, c, h => by
  rw [List.takeWhile_cons] at h
  cases ha : p a with
  | false => rw [ha] at h; cases h
  | true =>
   rw [ha] at h
   simp only [if_true] at h
   rcases List.mem_cons.1 h with rfl | h
   ·exact ha
   ·exact takeW_mem l c h
theorem snD_dg (s : List UInt8) : ∀ c ∈ (snD s).2.1, dgC c = true := by
 cases s with
 | nil => intro c h; cases h
 | cons a r =>
  by_cases h : a = 45
  ·rw [snD, if_pos h]; exact takeW_mem _
  ·rw [snD, if_neg h]; exact takeW_mem _
theorem snD_app (s : List UInt8) : s = l0S (snD s).1 (snD s).2.1 ++ (snD s).2.2 := by
 cases s with
 | nil => rfl
 | cons a r =>
  by_cases h : a = 45
  ·subst h
   rw [snD, if_pos rfl]
   simp only [l0S, if_true, List.cons_append, List.takeWhile_append_dropWhile]
  ·rw [snD, if_neg h]
   simp only [l0S, Bool.false_eq_true, if_false, List.takeWhile_append_dropWhile]
theorem snR_suf (s : List UInt8) : snR s <:+ s := ⟨_, (snD_app s).symm⟩
theorem tok_of {t s a r : List UInt8} (h : s <:+ t) (e : s = a ++ r) : (t.take (pos' t r)).drop (pos' t s) = a ∧ pos' t s ≤ pos' t r ∧ pos' t r ≤ t.length := by
 subst e
 obtain ⟨p, rfl⟩ := h
 unfold pos'
 have e1 : (p ++ (a ++ r)).length - r.length = p.length + a.length := by simp only [List.length_append]; omega
 have e2 : (p ++ (a ++ r)).length - (a ++ r).length = p.length := by simp only [List.length_append]; omega
 rw [e1, e2]
 refine ⟨?_, by omega, by simp only [List.length_append]; omega⟩
 rw [← List.append_assoc, List.take_left' (by simp), List.drop_left' rfl]
theorem tokV_l0 (neg : Bool) (ds : List UInt8) (hs : ∀ c ∈ ds, dgC c = true) : tokV (l0S neg ds) = l0N neg ds := by
 cases neg with
 | true => simp [l0S, tokV]
 | false =>
  cases ds with
  | nil => rfl
  | cons c ds =>
   have := dgC_bd (hs c (by simp))
   have hc : c ≠ 45 := fun e => by subst e; have : (45 : UInt8).toNat = 45 := rfl; omega
   simp [l0S, tokV, hc]
theorem l0N_zero : (l0N true [48]).2 = false := by simp [l0N]
theorem snV_nz {s : List UInt8} (h : (snV s).2 = true) : l0S (snD s).1 (snD s).2.1 ≠ [45, 48] := fun e => by
 unfold snV at h
 have hd := snD_dg s
 cases hn : (snD s).1 with
 | true =>
  rw [hn] at e h
  simp only [l0S, if_true, List.cons.injEq, true_and] at e
  rw [e, l0N_zero] at h
  cases h
 | false =>
  rw [hn] at e
  simp only [l0S, Bool.false_eq_true, if_false] at e
  have := dgC_bd (hd 45 (by rw [e]; simp))
  have h45 : (45 : UInt8).toNat = 45 := rfl
  omega
theorem snumber_ok {t s : List UInt8} (ht : t.length ≤ 1048576) (h : s <:+ t) (n : Int) (ok : Bool) : FnOK Tryz.prog fSNum [.ptr 0 0] [sdI t (pos' t s : Nat) n ok] ⟨.int .i64 (snV s).1, [sdI t (pos' t (snR s) : Nat) n (ok && (snV s).2)], [0]⟩ := by
 refine fnOK_TL (E := { P := Tryz.prog, vw := vwA, res := resL0, ls := lsSN }) follows named (snumT t (pos' t s : Nat) n ok) (by simp) ?_
 obtain ⟨k1, k2, k3⟩ := tok_of h (snD_app s)
 have hd := snD_dg s
 have hv := tokV_l0 (snD s).1 (snD s).2.1 hd
 have hln : (l0S (snD s).1 (snD s).2.1).length ≤ 1048577 := by
  have := congrArg List.length (snD_app s)
  have := h.length_le
  simp only [List.length_append] at *
  omega
 have hdl : (snD s).2.1.length ≤ 1048576 := by
  have h1 := congrArg List.length (snD_app s)
  have h2 := h.length_le
  have h3 : (snD s).2.1.length ≤ (l0S (snD s).1 (snD s).2.1).length := by unfold l0S; split <;> simp
  rw [List.length_append] at h1
  omega
 have hl0 := l0_ok (snD s).1 (snD s).2.1 hd hdl
 have hnz := @snV_nz s
 have fin : ∀ r, r = (snD s).2.2 → ((((0 : Int) ≤ (pos' t r : Nat) ∧ ((pos' t r : Nat) : Int) ≤ t.length) ∧ (0 : Int) ≤ (pos' t s : Nat) ∧ ((pos' t s : Nat) : Int) ≤ ((pos' t r : Nat)))) ∧ ∀ y, y = tokV ((t.take (pos' t r)).drop (pos' t s)) → FnOK Tryz.prog 94 [V.str ((t.take (pos' t r)).drop (pos' t s))] [] ⟨.tup [.int .i64 y.1, .bool y.2], [], []⟩ ∧
   ((ok = true → (y.2 = true → (((0 : Int) ≤ (pos' t r : Nat) ∧ ((pos' t r : Nat) : Int) ≤ t.length) ∧ (0 : Int) ≤ (pos' t s : Nat) ∧ ((pos' t s : Nat) : Int) ≤ ((pos' t r : Nat))) ∧ RetLe ⟨.int .i64 y.1, [sdI t (pos' t r : Nat) n (!((t.take (pos' t r)).drop (pos' t s)) == [45, 48])], [0]⟩ ⟨.int .i64 (snV s).1, [sdI t (pos' t (snR s) : Nat) n (ok && (snV s).2)], [0]⟩) ∧ (y.2 = false → RetLe ⟨.int .i64 y.1, [sdI t (pos' t r : Nat) n false], [0]⟩ ⟨.int .i64 (snV s).1, [sdI t (pos' t (snR s) : Nat) n (ok && (snV s).2)], [0]⟩)) ∧ (ok = false → RetLe ⟨.int .i64 y.1, [sdI t (pos' t r : Nat) n false], [0]⟩ ⟨.int .i64 (snV s).1, [sdI t (pos' t (snR s) : Nat) n (ok && (snV s).2)], [0]⟩)) := by
  rintro r rfl
  refine ⟨⟨⟨by omega, by omega⟩, by omega, by omega⟩, ?_⟩
  rintro y rfl
  rw [k1, hv]
  refine ⟨hl0, fun e1 => ⟨fun e2 => ⟨⟨⟨by omega, by omega⟩, by omega, by omega⟩, ?_⟩, fun e2 => ?_⟩, fun e1 => ?_⟩
  ·have : (!(l0S (snD s).1 (snD s).2.1) == [45, 48]) = true := by
    have := hnz e2
    simpa using this
   rw [this, e1, show (snV s).2 = true from e2]; exact ⟨rfl, rfl, by simp⟩
  ·rw [e1, show (snV s).2 = false from e2]; exact ⟨rfl, rfl, by simp⟩
  ·rw [e1]; exact ⟨rfl, rfl, by simp⟩
 simp only [WP_cond, T.WP, All, decide_eq_true_eq, decide_eq_false_iff_not, and_true, beq_iff_eq, beq_eq_false_iff_ne, ne_eq, Int.toNat_natCast, drop_pos h]
 cases s with
 | nil =>
  rw [pos_nil] at *
  refine ⟨fun h => by omega, fun _ => ?_⟩
  rintro y rfl
  have hl := snum_loop (by omega) n ok (pos' t [] : Nat) [] h
  rw [pos_nil] at hl
  refine ⟨⟨trivial, .loopTo hl⟩, ?_⟩
  exact fin _ rfl
 | cons c r =>
  obtain ⟨h1, h2, h3⟩ := pos_cons h
  have w1 : IntKind.i64.wrap (((pos' t (c :: r) : Nat) : Int) + 1) = (pos' t r : Nat) := by rw [wrap_succ (by omega), h2]
  have u45 : (((c.toNat : Nat) : Int) = 45) ↔ c = 45 := by
   rw [← UInt8.toNat_inj]
   have : (45 : UInt8).toNat = 45 := rfl
   omega
  rw [h1, w1, Int.toNat_natCast, drop_pos (suf_tail h)]
  simp only [u45]
  refine ⟨fun _ => ⟨by omega, fun hc => ?_, fun hc => ?_⟩, fun h => by omega⟩
  ·rintro y rfl
   have hl := snum_loop (by omega) n ok (pos' t (c :: r) : Nat) r (suf_tail h)
   refine ⟨⟨trivial, .loopTo hl⟩, ?_⟩
   exact fin _ (by rw [snD, if_pos hc])
  ·rintro y rfl
   have hl := snum_loop (by omega) n ok (pos' t (c :: r) : Nat) (c :: r) h
   refine ⟨⟨trivial, .loopTo hl⟩, ?_⟩
   exact fin _ (by rw [snD, if_neg hc])
end Go.Proofs.YtfncaghjfgnnhaaGreatDoor

/-
  The library's Replace over single bytes gives the text with what is set ahead of some bytes.
  The library's Replace over single bytes, whole; quoted texts.
  The program's print gives what the reference's gives.
  The reference's reader of values: objects.
  The reference's reader of values: objects, the whole.
  The reference's reader of values: objects, as a contract.
  The program's reader of values: lists.
-/
import Derived.Test.YtfncaghjfgnnhaaGreatDoorPyAg
namespace Go.Proofs.YtfncaghjfgnnhaaGreatDoor
open Go.RowKit
set_option maxRecDepth 100000
set_option maxRecDepth 100000 in
theorem repL_map (a b c : V) : repL a b c = (List.range 256).map (fun k => if k = 34 then a else if k = 92 then b else nilS) ++ [c] := by kernel_rfl
theorem repL_at (a b c : V) (k : Nat) (h : k < 256) : (repL a b c)[0 + Int.toNat (k : Int) * 1]? = some (if k = 34 then a else if k = 92 then b else nilS) := by
 have e : 0 + Int.toNat (k : Int) * 1 = k := by omega
 rw [e, repL_map, List.getElem?_append_left (by simp only [List.length_map, List.length_range]; exact h), List.getElem?_map, List.getElem?_range h]
 rfl
def spB (c : UInt8) : Bool := c == 34 || c == 92
theorem spB_iff (c : UInt8) : spB c = true ↔ c = 34 ∨ c = 92 := by simp [spB]
theorem escB_len (c : UInt8) : (escBQ c).length = if spB c then 2 else 1 := by
 unfold escBQ
 by_cases h1 : c = 34
 ·rw [if_pos h1, if_pos ((spB_iff c).2 (.inl h1))]; rfl
 ·by_cases h2 : c = 92
  ·rw [if_neg h1, if_pos h2, if_pos ((spB_iff c).2 (.inr h2))]; rfl
  ·rw [if_neg h1, if_neg h2, if_neg (fun h => by rcases (spB_iff c).1 h with h | h <;> contradiction)]; rfl
theorem escL_consQ (c : UInt8) (t : List UInt8) : escLQ (c :: t) = escBQ c ++ escLQ t := by simp [escLQ]
theorem escL_count (t : List UInt8) : (escLQ t).length = t.length + t.countP spB := by
 induction t with
 | nil => rfl
 | cons c t ih =>
  rw [escL_consQ, List.length_append, ih, escB_len, List.countP_cons, List.length_cons]
  split <;> omega
theorem escL_none (t : List UInt8) (h : t.any spB = false) : escLQ t = t := by
 induction t with
 | nil => rfl
 | cons c t ih =>
  simp only [List.any_cons, Bool.or_eq_false_iff] at h
  rw [escL_consQ, ih h.2]
  have h1 : ¬ (c = 34 ∨ c = 92) := fun hh => by rw [(spB_iff c).2 hh] at h; exact Bool.noConfusion h.1
  unfold escBQ
  rw [if_neg (fun e => h1 (.inl e)), if_neg (fun e => h1 (.inr e))]; rfl
theorem count_sp (t : List UInt8) : t.countP spB = t.count 92 + t.count 34 := by
 induction t with
 | nil => rfl
 | cons c t ih =>
  rw [List.countP_cons, List.count_cons, List.count_cons, ih]
  by_cases h1 : c = 34
  ·subst h1; simp [spB]; omega
  ·by_cases h2 : c = 92
   ·subst h2; simp [spB]; omega
   ·simp [spB, h1, h2]
theorem any_count (t : List UInt8) : t.any spB = (t.count 92 != 0 || t.count 34 != 0) := by
 have h1 : t.any spB = true ↔ 0 < t.countP spB := by
  rw [List.countP_pos_iff, List.any_eq_true]
 rw [count_sp] at h1
 rw [Bool.eq_iff_iff, h1]
 simp only [Bool.or_eq_true, bne_iff_ne, ne_eq]
 omega
theorem getD_drop (t : List UInt8) (i : Nat) (h : i < t.length) : t.drop i = t.getD i 0 :: t.drop (i + 1) := by
 rw [List.drop_eq_getElem_cons h, List.getD_eq_getElem?_getD, List.getElem?_eq_getElem h]; rfl
set_option maxRecDepth 100000 in
theorem cntC_loop (t : List UInt8) (ht : t.length ≤ 1048576) : ∀ (m i : Nat) (n : Nat) (b : Bool), i + m = t.length → n + m ≤ 4194304 →
  LoopTo Tryz.prog 4 (lp Tryz.prog fByteRep 2) (stC t i n b) (.exit 2) (stX t ((n + (t.drop i).countP spB : Nat) : Int) (b || (t.drop i).any spB))
 | 0, i, n, b, h1, h2 => by
  refine loopT (E := E116 (fun _ => 0) nilS) follows named (cntCo t i n b) ?_
  simp only [WP_cond, T.WP, All, decide_eq_true_eq, decide_eq_false_iff_not, and_true]
  obtain rfl : i = t.length := h1
  refine ⟨fun h => by omega, fun _ => ⟨rfl, ?_⟩⟩
  rw [List.drop_length]
  simp only [List.countP_nil, List.any_nil, Bool.or_false, Nat.add_zero]
  rfl
 | m + 1, i, n, b, h1, h2 => by
  have hi : i < t.length := by omega
  have hd := getD_drop t i hi
  have hc := (t.getD i 0).toNat_lt
  have tab := fun a b c => repL_at a b c (t.getD i 0).toNat hc
  by_cases e1 : t.getD i 0 = 34
  ·refine loopT (E := E116 (fun _ => 0) (.sl 1 0 2 false)) follows named (cntC34 t i n b) ?_
   simp only [WP_cond, T.WP, All, decide_eq_true_eq, decide_eq_false_iff_not, and_true, Int.toNat_natCast]
   have k1 : (t.getD i 0).toNat = 34 := by rw [e1]; rfl
   have ih := cntC_loop t ht m (i + 1) (n + 1) true (by omega) (by omega)
   rw [hd, List.countP_cons, List.any_cons, (spB_iff _).2 (.inl e1), if_pos rfl]
   rw [show (n + 1 + (t.drop (i + 1)).countP spB) = n + ((t.drop (i + 1)).countP spB + 1) by omega] at ih
   simp only [Bool.true_or, Bool.or_true] at ih ⊢
   simp only [k1]
   refine ⟨fun _ => ⟨by omega, by omega, rfl, by omega, rfl, ?_⟩, fun h => by omega⟩
   rw [wrap_succ (by omega), wrap_succ (by omega)]
   exact ih
  ·by_cases e2 : t.getD i 0 = 92
   ·refine loopT (E := E116 (fun _ => 0) (.sl 2 0 2 false)) follows named (cntC92 t i n b) ?_
    simp only [WP_cond, T.WP, All, decide_eq_true_eq, decide_eq_false_iff_not, and_true, Int.toNat_natCast]
    have k1 : (t.getD i 0).toNat = 92 := by rw [e2]; rfl
    have ih := cntC_loop t ht m (i + 1) (n + 1) true (by omega) (by omega)
    rw [hd, List.countP_cons, List.any_cons, (spB_iff _).2 (.inr e2), if_pos rfl]
    rw [show (n + 1 + (t.drop (i + 1)).countP spB) = n + ((t.drop (i + 1)).countP spB + 1) by omega] at ih
    simp only [Bool.true_or, Bool.or_true] at ih ⊢
    simp only [k1]
    refine ⟨fun _ => ⟨by omega, by omega, rfl, by omega, rfl, ?_⟩, fun h => by omega⟩
    rw [wrap_succ (by omega), wrap_succ (by omega)]
    exact ih
   ·have hs : spB (t.getD i 0) = false := by
     cases hh : spB (t.getD i 0) with
     | false => rfl
     | true => rcases (spB_iff _).1 hh with h | h <;> contradiction
    have k1 : ¬ (t.getD i 0).toNat = 34 := fun h => e1 (UInt8.toNat_inj.1 h)
    have k2 : ¬ (t.getD i 0).toNat = 92 := fun h => e2 (UInt8.toNat_inj.1 h)
    refine loopT (E := E116 (fun _ => 0) nilS) follows named (cntCo t i n b) ?_
    simp only [WP_cond, T.WP, All, decide_eq_true_eq, decide_eq_false_iff_not, and_true, Int.toNat_natCast]
    have ih := cntC_loop t ht m (i + 1) n b (by omega) (by omega)
    rw [hd, List.countP_cons, List.any_cons, hs, if_neg (by simp), Nat.add_zero, Bool.false_or]
    have tab0 := tab (.sl 1 0 2 false) (.sl 2 0 2 false) (.sl 3 0 2 false)
    rw [if_neg k1, if_neg k2] at tab0
    refine ⟨fun _ => ⟨by omega, by omega, tab0, ?_⟩, fun h => by omega⟩
    rw [wrap_succ (by omega)]
    exact ih
set_option maxRecDepth 100000 in
theorem cntA_loop (hC : ∀ (t : List UInt8) (c : UInt8), FnOK Tryz.prog fCount [.str t, .str [c]] [] ⟨.int .i64 (t.count c : Nat), [], []⟩) (t : List UInt8) (ht : t.length ≤ 1048576) (n : Nat) (hn : n ≤ 1048576) :
  LoopTo Tryz.prog 4 (lp Tryz.prog fByteRep 0) (stA t 0 n false) (.exit 0) (stX t ((n + t.countP spB : Nat) : Int) (t.any spB)) := by
 have c1 : t.count 92 ≤ t.length := List.count_le_length ..
 have c2 : t.count 34 ≤ t.length := List.count_le_length ..
 have last : ∀ (k : Nat) (b : Bool), LoopTo Tryz.prog 4 (lp Tryz.prog fByteRep 0) (stA t 2 k b) (.exit 0) (stX t k b) := by
  intro k b
  refine loopT (E := E116 (fun c => t.count c) nilS) follows named (cntA2 (fun c => t.count c) t k b) ?_
  simp only [T.WP]
  exact ⟨rfl, rfl⟩
 have mid : ∀ (k : Nat) (b : Bool), k ≤ 2097152 → LoopTo Tryz.prog 4 (lp Tryz.prog fByteRep 0) (stA t 1 k b) (.exit 0) (stX t ((k + t.count 34 : Nat) : Int) (b || t.count 34 != 0)) := by
  intro k b hk
  refine loopT (E := E116 (fun c => t.count c) nilS) follows named (cntA1 (fun c => t.count c) t k b) ?_
  simp only [WP_cond, T.WP, All, and_true]
  refine ⟨by omega, fun y e => ?_⟩
  subst e
  refine ⟨hC t 34, fun h => ⟨by omega, by omega, ?_⟩, fun h => ?_⟩
  ·have h0 : (t.count 34 != 0) = true := by rw [bne_iff_ne] at h ⊢; omega
   have e : ((k : Int) + ((t.count 34 : Nat) : Int)) = ((k + t.count 34 : Nat) : Int) := by omega
   have := last (k + t.count 34) true
   rw [Int.mul_one, wrap_nat (by omega), e, wrap_nat (by omega), h0, Bool.or_true]
   exact this
  ·have h1 : t.count 34 = 0 := by have := bne_eq_false_iff_eq.1 h; omega
   have := last k b
   rw [h1, Nat.add_zero]
   simp only [bne_self_eq_false, Bool.or_false]
   exact this
 refine loopT (E := E116 (fun c => t.count c) nilS) follows named (cntA0 (fun c => t.count c) t n false) ?_
 simp only [WP_cond, T.WP, All, and_true]
 refine ⟨by omega, fun y e => ?_⟩
 subst e
 rw [any_count, count_sp]
 refine ⟨hC t 92, fun h => ⟨by omega, by omega, ?_⟩, fun h => ?_⟩
 ·have h0 : (t.count 92 != 0) = true := by rw [bne_iff_ne] at h ⊢; omega
  have e : ((n : Int) + ((t.count 92 : Nat) : Int)) = ((n + t.count 92 : Nat) : Int) := by omega
  have := mid (n + t.count 92) true (by omega)
  rw [Int.mul_one, wrap_nat (by omega), e, wrap_nat (by omega), h0]
  rw [Nat.add_assoc] at this
  exact this
 ·have h1 : t.count 92 = 0 := by have := bne_eq_false_iff_eq.1 h; omega
  have := mid n false (by omega)
  rw [h1, Nat.zero_add]
  simp only [bne_self_eq_false]
  exact this
set_option maxRecDepth 100000 in
theorem cp_loop (t : List UInt8) (ht : t.length ≤ 1048576) (fl : Bool) : ∀ (m : Nat) (done rest : List UInt8) (i : Nat), i + m = t.length → rest.length = (escLQ (t.drop i)).length → done.length + rest.length ≤ 4194304 →
  LoopTo Tryz.prog 4 (lp Tryz.prog fByteRep 4) (stE t (done ++ rest) done.length i fl) (.exit 4) (stY (done ++ escLQ (t.drop i)) fl)
 | 0, done, rest, i, h1, h2, h3 => by
  refine loopT (E := E116 (fun _ => 0) nilS) follows named (cpEo t (done ++ rest) done.length i fl) ?_
  simp only [WP_cond, T.WP, All, decide_eq_true_eq, decide_eq_false_iff_not, and_true]
  obtain rfl : i = t.length := h1
  rw [List.drop_length] at h2 ⊢
  obtain rfl : rest = [] := List.eq_nil_of_length_eq_zero h2
  exact ⟨fun h => by omega, fun _ => ⟨rfl, rfl⟩⟩
 | m + 1, done, rest, i, h1, h2, h3 => by
  have hi : i < t.length := by omega
  have hd := getD_drop t i hi
  have hc := (t.getD i 0).toNat_lt
  rw [hd, escL_consQ, List.length_append] at h2
  have ih := fun rest' h => cp_loop t ht fl m (done ++ escBQ (t.getD i 0)) rest' (i + 1) (by omega) h
  have hlen : (done ++ rest).length = done.length + rest.length := List.length_append
  have henc := layByte.length (done ++ rest)
  by_cases e1 : t.getD i 0 = 34
  ·have k1 : (t.getD i 0).toNat = 34 := by rw [e1]; rfl
   have e : escBQ (t.getD i 0) = [92, 34] := by rw [e1]; rfl
   rw [e] at h2 ih
   obtain ⟨x, y, rest', rfl⟩ : ∃ x y r, rest = x :: y :: r := by
    match rest, h2 with
    | x :: y :: r, _ => exact ⟨x, y, r, rfl⟩
    | [_], h2 => simp at h2; omega
    | [], h2 => simp at h2; omega
   refine loopT (E := E116 (fun _ => 0) (.sl 1 0 2 false)) follows named (cpE34 t (done ++ x :: y :: rest') done.length i fl) ?_
   simp only [WP_cond, T.WP, All, decide_eq_true_eq, decide_eq_false_iff_not, and_true, Int.toNat_natCast]
   simp only [k1]
   simp only [List.length_cons, List.length_nil] at h2 h3 hlen
   refine ⟨fun _ => ⟨by omega, by omega, rfl, fun _ => ⟨by omega, by omega, rfl, ⟨by omega, by omega⟩, ?_⟩, fun h => by omega⟩, fun h => by omega⟩
   have g := ih rest' (by omega) (by simp only [List.length_append, List.length_cons, List.length_nil]; omega)
   rw [hd, escL_consQ, e, ← List.append_assoc]
   rw [wrap_succ (by omega), show ((done.length : Int) + 2) = ((done.length + 2 : Nat) : Int) by omega, wrap_nat (by omega)]
   have ee : List.take (0 + done.length * 1) (encs encByte (done ++ x :: y :: rest')) ++ V.int IntKind.u8 92 :: V.int IntKind.u8 34 :: List.drop (0 + done.length * 1 + 2) (encs encByte (done ++ x :: y :: rest')) = encs encByte (done ++ [92, 34] ++ rest') := by
    rw [show 0 + done.length * 1 = done.length * 1 by omega, show done.length * 1 + 2 = (done.length + 2) * 1 by omega, layByte.take, layByte.drop, List.take_left, ← List.drop_drop, List.drop_left, encs_append, encs_append]
    simp [encs, encByte]
   have el : (done ++ x :: y :: rest').length = (done ++ [92, 34] ++ rest').length := by simp
   rw [ee, el]
   rw [show (done ++ ([92, 34] : List UInt8)).length = done.length + 2 from List.length_append] at g
   exact g
  ·by_cases e2 : t.getD i 0 = 92
   ·have k1 : (t.getD i 0).toNat = 92 := by rw [e2]; rfl
    have e : escBQ (t.getD i 0) = [92, 92] := by rw [e2]; rfl
    rw [e] at h2 ih
    obtain ⟨x, y, rest', rfl⟩ : ∃ x y r, rest = x :: y :: r := by
     match rest, h2 with
     | x :: y :: r, _ => exact ⟨x, y, r, rfl⟩
     | [_], h2 => simp at h2; omega
     | [], h2 => simp at h2; omega
    refine loopT (E := E116 (fun _ => 0) (.sl 2 0 2 false)) follows named (cpE92 t (done ++ x :: y :: rest') done.length i fl) ?_
    simp only [WP_cond, T.WP, All, decide_eq_true_eq, decide_eq_false_iff_not, and_true, Int.toNat_natCast]
    simp only [k1]
    simp only [List.length_cons, List.length_nil] at h2 h3 hlen
    refine ⟨fun _ => ⟨by omega, by omega, rfl, fun _ => ⟨by omega, by omega, rfl, ⟨by omega, by omega⟩, ?_⟩, fun h => by omega⟩, fun h => by omega⟩
    have g := ih rest' (by omega) (by simp only [List.length_append, List.length_cons, List.length_nil]; omega)
    rw [hd, escL_consQ, e, ← List.append_assoc]
    rw [wrap_succ (by omega), show ((done.length : Int) + 2) = ((done.length + 2 : Nat) : Int) by omega, wrap_nat (by omega)]
    have ee : List.take (0 + done.length * 1) (encs encByte (done ++ x :: y :: rest')) ++ V.int IntKind.u8 92 :: V.int IntKind.u8 92 :: List.drop (0 + done.length * 1 + 2) (encs encByte (done ++ x :: y :: rest')) = encs encByte (done ++ [92, 92] ++ rest') := by
     rw [show 0 + done.length * 1 = done.length * 1 by omega, show done.length * 1 + 2 = (done.length + 2) * 1 by omega, layByte.take, layByte.drop, List.take_left, ← List.drop_drop, List.drop_left, encs_append, encs_append]
     simp [encs, encByte]
    have el : (done ++ x :: y :: rest').length = (done ++ [92, 92] ++ rest').length := by simp
    rw [ee, el]
    rw [show (done ++ ([92, 92] : List UInt8)).length = done.length + 2 from List.length_append] at g
    exact g
   ·have k1 : ¬ (t.getD i 0).toNat = 34 := fun h => e1 (UInt8.toNat_inj.1 h)
    have k2 : ¬ (t.getD i 0).toNat = 92 := fun h => e2 (UInt8.toNat_inj.1 h)
    have tab0 := repL_at (.sl 1 0 2 false) (.sl 2 0 2 false) (.sl 3 0 2 false) (t.getD i 0).toNat hc
    rw [if_neg k1, if_neg k2] at tab0
    generalize hg : t.getD i 0 = c at *
    have e : escBQ c = [c] := by unfold escBQ; rw [if_neg e1, if_neg e2]
    rw [e] at h2 ih
    obtain ⟨x, rest', rfl⟩ : ∃ x r, rest = x :: r := by
     match rest, h2 with
     | x :: r, _ => exact ⟨x, r, rfl⟩
     | [], h2 => simp at h2; omega
    refine loopT (E := E116 (fun _ => 0) nilS) follows named (cpEo t (done ++ x :: rest') done.length i fl) ?_
    simp only [WP_cond, T.WP, All, decide_eq_true_eq, decide_eq_false_iff_not, and_true, Int.toNat_natCast, hg]
    simp only [List.length_cons, List.length_nil] at h2 h3 hlen
    refine ⟨fun _ => ⟨by omega, by omega, tab0, by omega, by omega, ?_⟩, fun h => by omega⟩
    have g := ih rest' (by omega) (by simp only [List.length_append, List.length_cons, List.length_nil]; omega)
    rw [hd, escL_consQ, e, ← List.append_assoc]
    rw [wrap_succ (by omega), wrap_succ (by omega)]
    have ee : List.take (0 + done.length * 1) (encs encByte (done ++ x :: rest')) ++ V.int IntKind.u8 (c.toNat : Int) :: List.drop (0 + done.length * 1 + 1) (encs encByte (done ++ x :: rest')) = encs encByte (done ++ [c] ++ rest') := by
     rw [show 0 + done.length * 1 = done.length * 1 by omega, show done.length * 1 + 1 = (done.length + 1) * 1 by omega, layByte.take, layByte.drop, List.take_left, ← List.drop_drop, List.drop_left, encs_append, encs_append]
     simp [encs, encByte]
    have el : (done ++ x :: rest').length = (done ++ [c] ++ rest').length := by simp
    rw [ee, el]
    rw [show (done ++ ([c] : List UInt8)).length = done.length + 1 from List.length_append] at g
    exact g
end Go.Proofs.YtfncaghjfgnnhaaGreatDoor

namespace Go.Proofs.YtfncaghjfgnnhaaGreatDoor
open Go.RowKit
set_option maxRecDepth 100000
noncomputable def ls116 (t : List UInt8) : Nat → St → Option LRes := fun id s => match id with
 | 0 => some ⟨(), fun _ => .one { keep := [0, 1, 5, 6, 30, 31, 32] } (stA t 0 t.length false) (.exit 0) (stX t ((t.length + t.countP spB : Nat) : Int) (t.any spB))⟩
 | 2 => some ⟨(), fun _ => .one { keep := [0, 1, 5, 6, 10] } (stC t 0 t.length false) (.exit 2) (stX t ((t.length + t.countP spB : Nat) : Int) (t.any spB))⟩
 | 4 => match s.tm.get 12 with
  | .sl _ _ n fl => some ⟨escLQ t, fun y => .one { keep := [0, 1, 12, 13, 14] } (stE t (List.replicate n 0) 0 0 fl) (.exit 4) (stY y fl)⟩
  | _ => none
 | _ => none
noncomputable def E116b (t : List UInt8) : Env := { P := Tryz.prog, vw := fun _ _ _ => none, res := resCnt (fun _ => 0), ls := ls116 t, vs := [] }
--FOLD bytBQ
set_option maxRecDepth 100000 in
theorem byteRepT (t : List UInt8) : fnT (E116b t) 0 fByteRep [.ptr 0 0, .str t] H116 = (
 bif decide ((16 : Int) ≤ (↑t.length : Int)) then .bind PUnit.unit fun _ => .need [St.mk (mkTm 122 [(0, .ptr 0 0), (1, .str t), (5, .int .i64 (↑t.length : Int)), (6, .bool false), (30, .sl 3 0 2 false), (31, .int .i64 2), (32, .int .i64
 0)]) [some ((repL (.sl 1 0 2 false) (.sl 2 0 2 false) (.sl 3 0 2 false)), 157), some ([.sld [.int .u8 92, .int .u8 34]], 5), some ([.sld [.int .u8 92, .int .u8 92]], 5), some ([.str [92], .str [34]], 9)] [] = St.mk (mkTm 122 [(0, .ptr 0 0),
 (1, .str t), (5, .int .i64 (↑t.length : Int)), (6, .bool false), (30, .sl 3 0 2 false), (31, .int .i64 2), (32, .int .i64 0)]) [some ((repL (.sl 1 0 2 false) (.sl 2 0 2 false) (.sl 3 0 2 false)), 157), some ([.sld [.int .u8 92, .int .u8
 34]], 5), some ([.sld [.int .u8 92, .int .u8 92]], 5), some ([.str [92], .str [34]], 9)] [], SoundC Tryz.prog 4 (blk Tryz.prog fByteRep 0) (St.mk (mkTm 122 [(0, .ptr 0 0), (1, .str t), (5, .int .i64 (↑t.length : Int)), (6, .bool false),
 (30, .sl 3 0 2 false), (31, .int .i64 2), (32, .int .i64 0)]) [some ((repL (.sl 1 0 2 false) (.sl 2 0 2 false) (.sl 3 0 2 false)), 157), some ([.sld [.int .u8 92, .int .u8 34]], 5), some ([.sld [.int .u8 92, .int .u8 92]], 5), some ([.str
 [92], .str [34]], 9)] []) (Ex.exit 0) (St.mk (mkTm 122 [(0, .ptr 0 0), (1, .str t), (5, .int .i64 (↑(t.length + List.countP spB t) : Int)), (6, .bool (List.any t spB))]) [some ((repL (.sl 1 0 2 false) (.sl 2 0 2 false) (.sl 3 0 2 false)),
 157), some ([.sld [.int .u8 92, .int .u8 34]], 5), some ([.sld [.int .u8 92, .int .u8 92]], 5), some ([.str [92], .str [34]], 9)] [])] (bif !List.any t spB then .done (Ret.mk (.str t) [some ((repL (.sl 1 0 2 false) (.sl 2 0 2 false) (.sl 3
 0 2 false)), 157), some ([.sld [.int .u8 92, .int .u8 34]], 5), some ([.sld [.int .u8 92, .int .u8 92]], 5), some ([.str [92], .str [34]], 9)] []) else .need [(0 : Int) ≤ (↑(t.length + List.countP spB t) : Int) ∧ (↑(t.length + List.countP
 spB t) : Int) ≤ (↑(t.length + List.countP spB t) : Int) ∧ (↑(t.length + List.countP spB t) : Int) ≤ 1048576] (.bind (escLQ t) fun y1 => .need [St.mk (mkTm 122 [(0, .ptr 0 0), (1, .str t), (12, .sl 4 0 (Int.toNat (↑(t.length + List.countP
 spB t) : Int)) ((↑(t.length + List.countP spB t) : Int) == (↑(t.length + List.countP spB t) : Int))), (13, .int .i64 0), (14, .int .i64 0)]) [some ((repL (.sl 1 0 2 false) (.sl 2 0 2 false) (.sl 3 0 2 false)), 157), some ([.sld [.int .u8
 92, .int .u8 34]], 5), some ([.sld [.int .u8 92, .int .u8 92]], 5), some ([.str [92], .str [34]], 9), some ([.sld (zeros [.int .u8 0] (Int.toNat (↑(t.length + List.countP spB t) : Int) * 1))], 5)] [] = St.mk (mkTm 122 [(0, .ptr 0 0), (1,
 .str t), (12, .sl 4 0 (List.length (List.replicate (Int.toNat (↑(t.length + List.countP spB t) : Int)) (0 : UInt8))) ((↑(t.length + List.countP spB t) : Int) == (↑(t.length + List.countP spB t) : Int))), (13, .int .i64 0), (14, .int .i64
 0)]) [some ((repL (.sl 1 0 2 false) (.sl 2 0 2 false) (.sl 3 0 2 false)), 157), some ([.sld [.int .u8 92, .int .u8 34]], 5), some ([.sld [.int .u8 92, .int .u8 92]], 5), some ([.str [92], .str [34]], 9), bytBQ (List.replicate (Int.toNat
 (↑(t.length + List.countP spB t) : Int)) (0 : UInt8))] [], SoundC Tryz.prog 4 (blk Tryz.prog fByteRep 4) (St.mk (mkTm 122 [(0, .ptr 0 0), (1, .str t), (12, .sl 4 0 (List.length (List.replicate (Int.toNat (↑(t.length + List.countP spB t) :
 Int)) (0 : UInt8))) ((↑(t.length + List.countP spB t) : Int) == (↑(t.length + List.countP spB t) : Int))), (13, .int .i64 0), (14, .int .i64 0)]) [some ((repL (.sl 1 0 2 false) (.sl 2 0 2 false) (.sl 3 0 2 false)), 157), some ([.sld [.int
 .u8 92, .int .u8 34]], 5), some ([.sld [.int .u8 92, .int .u8 92]], 5), some ([.str [92], .str [34]], 9), bytBQ (List.replicate (Int.toNat (↑(t.length + List.countP spB t) : Int)) (0 : UInt8))] []) (Ex.exit 4) (St.mk (mkTm 122 [(12, .sl 4 0
 y1.length ((↑(t.length + List.countP spB t) : Int) == (↑(t.length + List.countP spB t) : Int)))]) [some ((repL (.sl 1 0 2 false) (.sl 2 0 2 false) (.sl 3 0 2 false)), 157), some ([.sld [.int .u8 92, .int .u8 34]], 5), some ([.sld [.int .u8
 92, .int .u8 92]], 5), some ([.str [92], .str [34]], 9), bytBQ y1] [])] (.need [encs encByte y1 = byts (decL encByte (encs encByte y1)), 0 = 0, List.length (decL encByte (encs encByte y1) ++ []) = y1.length] (.done (Ret.mk (.str (decL
 encByte (encs encByte y1) ++ [])) [some ((repL (.sl 1 0 2 false) (.sl 2 0 2 false) (.sl 3 0 2 false)), 157), some ([.sld [.int .u8 92, .int .u8 34]], 5), some ([.sld [.int .u8 92, .int .u8 92]], 5), some ([.str [92], .str [34]], 9)] [])))))
 else .bind PUnit.unit fun _ => .need [St.mk (mkTm 122 [(0, .ptr 0 0), (1, .str t), (5, .int .i64 (↑t.length : Int)), (6, .bool false), (10, .int .i64 0)]) [some ((repL (.sl 1 0 2 false) (.sl 2 0 2 false) (.sl 3 0 2 false)), 157), some
 ([.sld [.int .u8 92, .int .u8 34]], 5), some ([.sld [.int .u8 92, .int .u8 92]], 5), some ([.str [92], .str [34]], 9)] [] = St.mk (mkTm 122 [(0, .ptr 0 0), (1, .str t), (5, .int .i64 (↑t.length : Int)), (6, .bool false), (10, .int .i64 0)])
 [some ((repL (.sl 1 0 2 false) (.sl 2 0 2 false) (.sl 3 0 2 false)), 157), some ([.sld [.int .u8 92, .int .u8 34]], 5), some ([.sld [.int .u8 92, .int .u8 92]], 5), some ([.str [92], .str [34]], 9)] [], SoundC Tryz.prog 4 (blk Tryz.prog
 fByteRep 2) (St.mk (mkTm 122 [(0, .ptr 0 0), (1, .str t), (5, .int .i64 (↑t.length : Int)), (6, .bool false), (10, .int .i64 0)]) [some ((repL (.sl 1 0 2 false) (.sl 2 0 2 false) (.sl 3 0 2 false)), 157), some ([.sld [.int .u8 92, .int .u8
 34]], 5), some ([.sld [.int .u8 92, .int .u8 92]], 5), some ([.str [92], .str [34]], 9)] []) (Ex.exit 2) (St.mk (mkTm 122 [(0, .ptr 0 0), (1, .str t), (5, .int .i64 (↑(t.length + List.countP spB t) : Int)), (6, .bool (List.any t spB))])
 [some ((repL (.sl 1 0 2 false) (.sl 2 0 2 false) (.sl 3 0 2 false)), 157), some ([.sld [.int .u8 92, .int .u8 34]], 5), some ([.sld [.int .u8 92, .int .u8 92]], 5), some ([.str [92], .str [34]], 9)] [])] (bif !List.any t spB then .done
 (Ret.mk (.str t) [some ((repL (.sl 1 0 2 false) (.sl 2 0 2 false) (.sl 3 0 2 false)), 157), some ([.sld [.int .u8 92, .int .u8 34]], 5), some ([.sld [.int .u8 92, .int .u8 92]], 5), some ([.str [92], .str [34]], 9)] []) else .need [(0 :
 Int) ≤ (↑(t.length + List.countP spB t) : Int) ∧ (↑(t.length + List.countP spB t) : Int) ≤ (↑(t.length + List.countP spB t) : Int) ∧ (↑(t.length + List.countP spB t) : Int) ≤ 1048576] (.bind (escLQ t) fun y3 => .need [St.mk (mkTm 122 [(0,
 .ptr 0 0), (1, .str t), (12, .sl 4 0 (Int.toNat (↑(t.length + List.countP spB t) : Int)) ((↑(t.length + List.countP spB t) : Int) == (↑(t.length + List.countP spB t) : Int))), (13, .int .i64 0), (14, .int .i64 0)]) [some ((repL (.sl 1 0 2
 false) (.sl 2 0 2 false) (.sl 3 0 2 false)), 157), some ([.sld [.int .u8 92, .int .u8 34]], 5), some ([.sld [.int .u8 92, .int .u8 92]], 5), some ([.str [92], .str [34]], 9), some ([.sld (zeros [.int .u8 0] (Int.toNat (↑(t.length +
 List.countP spB t) : Int) * 1))], 5)] [] = St.mk (mkTm 122 [(0, .ptr 0 0), (1, .str t), (12, .sl 4 0 (List.length (List.replicate (Int.toNat (↑(t.length + List.countP spB t) : Int)) (0 : UInt8))) ((↑(t.length + List.countP spB t) : Int) ==
 (↑(t.length + List.countP spB t) : Int))), (13, .int .i64 0), (14, .int .i64 0)]) [some ((repL (.sl 1 0 2 false) (.sl 2 0 2 false) (.sl 3 0 2 false)), 157), some ([.sld [.int .u8 92, .int .u8 34]], 5), some ([.sld [.int .u8 92, .int .u8
 92]], 5), some ([.str [92], .str [34]], 9), bytBQ (List.replicate (Int.toNat (↑(t.length + List.countP spB t) : Int)) (0 : UInt8))] [], SoundC Tryz.prog 4 (blk Tryz.prog fByteRep 4) (St.mk (mkTm 122 [(0, .ptr 0 0), (1, .str t), (12, .sl 4 0
 (List.length (List.replicate (Int.toNat (↑(t.length + List.countP spB t) : Int)) (0 : UInt8))) ((↑(t.length + List.countP spB t) : Int) == (↑(t.length + List.countP spB t) : Int))), (13, .int .i64 0), (14, .int .i64 0)]) [some ((repL (.sl 1
 0 2 false) (.sl 2 0 2 false) (.sl 3 0 2 false)), 157), some ([.sld [.int .u8 92, .int .u8 34]], 5), some ([.sld [.int .u8 92, .int .u8 92]], 5), some ([.str [92], .str [34]], 9), bytBQ (List.replicate (Int.toNat (↑(t.length + List.countP
 spB t) : Int)) (0 : UInt8))] []) (Ex.exit 4) (St.mk (mkTm 122 [(12, .sl 4 0 y3.length ((↑(t.length + List.countP spB t) : Int) == (↑(t.length + List.countP spB t) : Int)))]) [some ((repL (.sl 1 0 2 false) (.sl 2 0 2 false) (.sl 3 0 2
 false)), 157), some ([.sld [.int .u8 92, .int .u8 34]], 5), some ([.sld [.int .u8 92, .int .u8 92]], 5), some ([.str [92], .str [34]], 9), bytBQ y3] [])] (.need [encs encByte y3 = byts (decL encByte (encs encByte y3)), 0 = 0, List.length
 (decL encByte (encs encByte y3) ++ []) = y3.length] (.done (Ret.mk (.str (decL encByte (encs encByte y3) ++ [])) [some ((repL (.sl 1 0 2 false) (.sl 2 0 2 false) (.sl 3 0 2 false)), 157), some ([.sld [.int .u8 92, .int .u8 34]], 5), some
 ([.sld [.int .u8 92, .int .u8 92]], 5), some ([.str [92], .str [34]], 9)] []))))) : T _) := by kernel_rfl
theorem zeros_byte (n : Nat) : zeros [V.int .u8 0] (n * 1) = encs encByte (List.replicate n 0) := by
 apply List.ext_getElem?
 intro i
 rw [Nat.mul_one, zeros, List.getElem?_map]
 have hl := layByte.length (List.replicate n (0 : UInt8))
 rw [List.length_replicate, Nat.mul_one] at hl
 by_cases h : i < n
 ·have h2 := layByte.at (List.replicate n (0 : UInt8)) 0 i 1 (by simpa using h) rfl
  rw [Nat.mul_one] at h2
  have h3 : ((encs encByte (List.replicate n (0 : UInt8))).drop i)[0]? = some (.int .u8 (((List.replicate n (0 : UInt8)).getD i 0).toNat : Nat)) := by
   have := congrArg (·[0]?) h2
   simpa [encByte] using this
  rw [List.getElem?_drop, Nat.add_zero] at h3
  rw [h3, List.getElem?_range h]
  have h4 : (List.replicate n (0 : UInt8)).getD i 0 = 0 := by
   rw [List.getD_eq_getElem?_getD, List.getElem?_replicate]; split <;> rfl
  rw [h4]
  show some ([V.int .u8 0].getD (i % 1) .junk) = _
  rw [Nat.mod_one]; rfl
 ·rw [List.getElem?_eq_none (by simpa using h), List.getElem?_eq_none (by omega)]; rfl
theorem byteRep_ok : ByteRep escLQ 500000 := by
 intro t ht
 refine fnOK_TL (E := E116b t) follows named (byteRepT t) (by simp) ?_
 have hcp := escL_count t
 have hcl : t.countP spB ≤ t.length := List.countP_le_length ..
 have hA := cntA_loop count_ok t (by omega) t.length (by omega)
 have hC := cntC_loop t (by omega) t.length 0 t.length false (by omega) (by omega)
 rw [List.drop_zero, Bool.false_or] at hC
 have hE : ∀ fl, LoopTo Tryz.prog 4 (lp Tryz.prog fByteRep 4) (stE t (List.replicate (t.length + t.countP spB) 0) 0 0 fl) (.exit 4) (stY (escLQ t) fl) := by
  intro fl
  have := cp_loop t (by omega) fl t.length [] (List.replicate (t.length + t.countP spB) 0) 0 (by omega) (by rw [List.drop_zero, hcp, List.length_replicate]) (by simp only [List.length_nil, List.length_replicate]; omega)
  rw [List.drop_zero, List.nil_append, List.nil_append] at this
  exact this
 have hz := zeros_byte (t.length + t.countP spB)
 have hd := layByte.decL (escLQ t)
 have hL : (List.replicate (t.length + t.countP spB) (0 : UInt8)).length = t.length + t.countP spB := List.length_replicate
 have none : ∀ h : (!t.any spB) = true, escLQ t = t := fun h => escL_none t (by simpa using h)
 simp only [WP_cond]
 refine ⟨fun _ => ?_, fun _ => ?_⟩
 ·rintro y -
  refine ⟨⟨trivial, .loopTo hA, trivial⟩, ?_⟩
  rw [WP_cond]
  refine ⟨fun hn => ?_, fun _ => ?_⟩
  ·rw [none hn]; exact ⟨rfl, rfl, by simp⟩
  ·refine ⟨⟨by omega, trivial⟩, ?_⟩
   rintro y rfl
   refine ⟨⟨?_, ?_, trivial⟩, ⟨by rw [hd, byts_encs], trivial, by rw [hd, List.append_nil], trivial⟩, ?_⟩
   ·rw [Int.toNat_natCast, hz, hL]; rfl
   ·rw [Int.toNat_natCast, hL]
    have := hE (((t.length + t.countP spB : Nat) : Int) == ((t.length + t.countP spB : Nat) : Int))
    unfold stE at this
    rw [hL] at this
    exact .loopTo this
   ·rw [hd, List.append_nil]; exact ⟨rfl, rfl, by simp⟩
 ·rintro y -
  refine ⟨⟨trivial, .loopTo hC, trivial⟩, ?_⟩
  rw [WP_cond]
  refine ⟨fun hn => ?_, fun _ => ?_⟩
  ·rw [none hn]; exact ⟨rfl, rfl, by simp⟩
  ·refine ⟨⟨by omega, trivial⟩, ?_⟩
   rintro y rfl
   refine ⟨⟨?_, ?_, trivial⟩, ⟨by rw [hd, byts_encs], trivial, by rw [hd, List.append_nil], trivial⟩, ?_⟩
   ·rw [Int.toNat_natCast, hz, hL]; rfl
   ·rw [Int.toNat_natCast, hL]
    have := hE (((t.length + t.countP spB : Nat) : Int) == ((t.length + t.countP spB : Nat) : Int))
    unfold stE at this
    rw [hL] at this
    exact .loopTo this
   ·rw [hd, List.append_nil]; exact ⟨rfl, rfl, by simp⟩
theorem replace_ok (t : List UInt8) (ht : t.length ≤ 500000) : FnOK Tryz.prog fReplace [.ptr 0 0, .str t] [some ([.int .u32 0, .int .i32 0, .int .u32 0, .lit .nilIface, .sl 1 0 4 false], tRep), oldB] ⟨.str (escLQ t), [none, none], [0, 1]⟩ := by
 refine dead_TL (E := ERep escLQ) follows named (replaceT escLQ t) rfl ?_
 rintro y -
 refine ⟨⟨do_ok, trivial⟩, ⟨rfl, rfl, replaceIs, trivial⟩, ?_⟩
 rintro y rfl
 exact ⟨⟨byteRep_ok t ht, trivial⟩, rfl⟩
theorem quoted_ok (t : List UInt8) (ht : t.length ≤ 500000) : FnOK Tryz.prog fQuoted [.str t] [] ⟨.str (34 :: escLQ t ++ [34]), [], []⟩ := by
 refine fnOK_TL (E := ERep escLQ) follows named (quotedT escLQ t) (by simp) ?_
 have hl : (escLQ t).length ≤ 1000000 := by
  have := escL_count t
  have : t.countP spB ≤ t.length := List.countP_le_length ..
  omega
 rintro y -
 refine ⟨⟨newRep_ok, trivial⟩, ?_⟩
 rintro y rfl
 exact ⟨⟨replace_ok t ht, trivial⟩, ⟨by omega, trivial⟩, ⟨by simp only [List.length_append, List.length_cons, List.length_nil]; omega, trivial⟩, ⟨rfl, rfl, by simp⟩⟩
end Go.Proofs.YtfncaghjfgnnhaaGreatDoor

namespace Go.Proofs.YtfncaghjfgnnhaaGreatDoor
open Go.RowKit
set_option maxRecDepth 100000
abbrev fIPrint : Nat := 34
abbrev fIPrintJson : Nat := 12
abbrev fJoin : Nat := 55
abbrev fItoa : Nat := 54
noncomputable def resIP : ResT := fun f vs hp => match vs, hp with
 | [.agg [.int _ k, .int _ n, .str t, .dsl _ _ ks, .dsl _ _ its]], [] => bif Nat.beq f fIPrint then some ⟨pj (jOf k n t ks its), fun y => ⟨.str y, [], []⟩⟩ else none
 | [.str t], [] => bif Nat.beq f fQuoted then some ⟨quo t, fun y => ⟨.str y, [], []⟩⟩ else none
 | [.int _ n], [] => bif Nat.beq f fItoa then some ⟨dg n, fun y => ⟨.str y, [], []⟩⟩ else none
 | [.sl 0 0 _ _, .str _], [some ([.sld cs], _)] => bif Nat.beq f fJoin then some ⟨Lib.join (decL encStr cs) [44], fun y => ⟨.str y, [none], [0]⟩⟩ else none
 | _, _ => none
noncomputable def EIP : Env := { P := Tryz.prog, vw := vwA, res := resIP }
abbrev tStr : Nat := 9
def stIP (j : J) (W : List (List UInt8)) (i : Int) (b : Bool) : St := ⟨mkTm 66 [(1, .ptr 0 0), (3, .sl 1 0 W.length b), (9, sls encJ j.items), (10, .int .i64 j.items.length), (11, .int .i64 i)], [some (vwJ j, tJ), some ([.sld (encs encStr W)], tStr)], []⟩
def nfIP : Ex → Kp := fun ex => match ex with
 | .normal => { keep := [1, 3, 9, 10, 11] }
 | _ => { keep := [1, 3] }
--FOLD vwJ
set_option maxRecDepth 100000 in
theorem iprT (j : J) (W : List (List UInt8)) (i : Int) (b : Bool) : bodyT EIP 0 nfIP (lp Tryz.prog fIPrint 0) (stIP j W i b) = (
 bif decide (i < (↑(List.length (J.items j)) : Int)) then .need [0 ≤ i ∧ i < (↑(List.length (J.items j)) : Int), List.take 5 (List.drop (Int.toNat i * 5) (encs encJ (J.items j))) = vwJ (List.getD (decL encJ (encs encJ (J.items j)))
 (Int.toNat i) (J.mk (0 : Int) (0 : Int) [] [] []))] (.bind (pj (jOf (J.kind (List.getD (decL encJ (encs encJ (J.items j))) (Int.toNat i) (J.mk (0 : Int) (0 : Int) [] [] []))) (J.n (List.getD (decL encJ (encs encJ (J.items j))) (Int.toNat i)
 (J.mk (0 : Int) (0 : Int) [] [] []))) (J.t (List.getD (decL encJ (encs encJ (J.items j))) (Int.toNat i) (J.mk (0 : Int) (0 : Int) [] [] []))) (encs encStr (J.keys (List.getD (decL encJ (encs encJ (J.items j))) (Int.toNat i) (J.mk (0 : Int)
 (0 : Int) [] [] [])))) (encs encJ (J.items (List.getD (decL encJ (encs encJ (J.items j))) (Int.toNat i) (J.mk (0 : Int) (0 : Int) [] [] [])))))) fun y0 => .need [FnOK (Env.P EIP) 34 [.agg (vwJ (List.getD (decL encJ (encs encJ (J.items j)))
 (Int.toNat i) (J.mk (0 : Int) (0 : Int) [] [] [])))] [] (Ret.mk (.str y0) [] [])] (bif J.kind j == 5 then .need [0 ≤ i ∧ i < (↑(List.length (J.keys j)) : Int), List.take 1 (List.drop (Int.toNat i * 1) (encs encStr (J.keys j))) = [.str
 (List.getD (decL encStr (encs encStr (J.keys j))) (Int.toNat i) [])]] (.bind (quo (List.getD (decL encStr (encs encStr (J.keys j))) (Int.toNat i) [])) fun y1 => .need [FnOK (Env.P EIP) 53 [.str (List.getD (decL encStr (encs encStr (J.keys
 j))) (Int.toNat i) [])] [] (Ret.mk (.str y1) [] [])] (.need [y1.length + 1 ≤ 4611686018427387904] (.need [List.length (y1 ++ [(58 : UInt8)]) + y0.length ≤ 4611686018427387904] (.need [0 = 0, List.length (encs encStr W) = W.length * 1,
 W.length + 1 ≤ 9223372036854775807, (W.length + 1) * 16 ≤ 140737488355328] (.done (Ex.normal, St.mk (mkTm 66 [(1, .ptr 0 0), (3, .sl 1 0 (W.length + 1) false), (9, .dsl (List.length (J.items j)) false (encs encJ (J.items j))), (10, .int
 .i64 (↑(List.length (J.items j)) : Int)), (11, .int .i64 (IntKind.wrap IntKind.i64 (i + 1)))]) [some (vwJ j, 25), some ([.sld (encs encStr W ++ [.str (y1 ++ [(58 : UInt8)] ++ y0)])], 9)] [])))))) else .need [0 = 0, List.length (encs encStr
 W) = W.length * 1, W.length + 1 ≤ 9223372036854775807, (W.length + 1) * 16 ≤ 140737488355328] (.done (Ex.normal, St.mk (mkTm 66 [(1, .ptr 0 0), (3, .sl 1 0 (W.length + 1) false), (9, .dsl (List.length (J.items j)) false (encs encJ (J.items
 j))), (10, .int .i64 (↑(List.length (J.items j)) : Int)), (11, .int .i64 (IntKind.wrap IntKind.i64 (i + 1)))]) [some (vwJ j, 25), some ([.sld (encs encStr W ++ [.str y0])], 9)] [])))) else .done (Ex.exit 0, St.mk (mkTm 66 [(1, .ptr 0 0),
 (3, .sl 1 0 W.length b)]) [some (vwJ j, 25), some ([.sld (encs encStr W)], 9)] []) : T _) := by kernel_rfl
def stIPx (j : J) (W : List (List UInt8)) (b : Bool) : St := ⟨mkTm 66 [(1, .ptr 0 0), (3, .sl 1 0 W.length b)], [some (vwJ j, tJ), some ([.sld (encs encStr W)], tStr)], []⟩
theorem quoted_ok' (t : List UInt8) (ht : t.length ≤ 500000) : FnOK Tryz.prog fQuoted [.str t] [] ⟨.str (quo t), [], []⟩ := quoted_ok t ht
structure IPrOK (j : J) : Prop where
 items : ∀ x ∈ j.items, FnOK Tryz.prog fIPrint [.agg (vwJ x)] [] ⟨.str (pj x), [], []⟩ ∧ (pj x).length ≤ 1073741824
 keys : ∀ s ∈ j.keys, s.length ≤ 1000
 len : j.items.length ≤ 1048576
 obj : j.kind = 5 → j.items.length ≤ j.keys.length
theorem ipr_loop (j : J) (hj : IPrOK j) : ∀ (m : Nat) (W : List (List UInt8)) (i : Nat) (b : Bool), i + m = j.items.length → W.length = i → (1 ≤ i → b = false) →
  LoopTo Tryz.prog 0 (lp Tryz.prog fIPrint 0) (stIP j W i b) (.exit 0) (stIPx j (W ++ prts (j.kind == 5) (j.keys.drop i) (j.items.drop i)) (b && j.items.length == 0))
 | 0, W, i, b, h1, h2, h3 => by
  refine loopT (E := EIP) follows named (iprT j W i b) ?_
  obtain rfl : i = j.items.length := h1
  have hlen := hj.len
  simp only [WP_cond, T.WP, All, decide_eq_true_eq, decide_eq_false_iff_not, and_true, beq_iff_eq, beq_eq_false_iff_ne, ne_eq]
  refine ⟨fun h => by omega, fun _ => ⟨rfl, ?_⟩⟩
  have hb : (b && j.items.length == 0) = b := by
   rcases Nat.eq_zero_or_pos j.items.length with h | h
   ·simp [h]
   ·rw [h3 h]; rfl
  rw [List.drop_length, hb]
  simp [prts, stIPx]
 | m + 1, W, i, b, h1, h2, h3 => by
  refine loopT (E := EIP) follows named (iprT j W i b) ?_
  have hat := vwJ_at j.items i (by omega)
  have hlen := hj.len
  simp only [WP_cond, T.WP, All, decide_eq_true_eq, decide_eq_false_iff_not, and_true, beq_iff_eq, beq_eq_false_iff_ne, ne_eq, Int.toNat_natCast, layJ.decL, layStr.decL, wrap_succ (show i < 9223372036854775807 by omega), show J.mk 0 0 [] [] [] = J.zero from rfl]
  have hx : j.items.getD i J.zero ∈ j.items := by rw [List.getD_eq_getElem?_getD, List.getElem?_eq_getElem (by omega)]; exact List.getElem_mem _
  have hi := hj.items _ hx
  have ih := ipr_loop j hj m (W ++ [prt (j.kind == 5) (j.keys.getD i []) (j.items.getD i J.zero)]) (i + 1) false (by omega) (by simp [h2]) (fun _ => rfl)
  rw [List.append_assoc, List.singleton_append, ← prts_step _ i _ _ (by omega)] at ih
  have e : stIPx j (W ++ prts (j.kind == 5) (List.drop i j.keys) (List.drop i j.items)) (b && j.items.length == 0) = stIPx j (W ++ prts (j.kind == 5) (List.drop i j.keys) (List.drop i j.items)) (false && j.items.length == 0) := by
   rw [show (j.items.length == 0) = false by rw [beq_eq_false_iff_ne]; omega]; simp
  rw [e]
  refine ⟨fun _ => ⟨⟨by omega, hat⟩, ?_⟩, fun h => by omega⟩
  rintro y rfl
  rw [jOf_eta]
  refine ⟨hi.1, fun h5 => ?_, fun h5 => ?_⟩
  ·have hk : i < j.keys.length := by have := hj.obj h5; omega
   have hkl := hj.keys (j.keys.getD i []) (by rw [List.getD_eq_getElem?_getD, List.getElem?_eq_getElem hk]; exact List.getElem_mem _)
   have hq := quo_len (j.keys.getD i [])
   have hat2 := layStr.at j.keys [] i 1 hk rfl
   refine ⟨⟨by omega, hat2⟩, ?_⟩
   rintro z rfl
   refine ⟨quoted_ok' _ (by omega), by omega, by have := hi.2; simp only [List.length_append, List.length_singleton]; omega, ⟨trivial, by rw [layStr.length], by omega, by omega⟩, ?_⟩
   simp only [prt, h5, beq_self_eq_true, if_true, stIP, encs_snoc, encStr, List.length_append, List.length_singleton] at ih ⊢
   exact ih
  ·refine ⟨⟨trivial, by rw [layStr.length], by omega, by omega⟩, ?_⟩
   simp only [prt, show (j.kind == 5) = false by rw [beq_eq_false_iff_ne]; exact h5, Bool.false_eq_true, if_false, List.nil_append, stIP, encs_snoc, encStr, List.length_append, List.length_singleton] at ih ⊢
   exact ih
noncomputable def lsIPr (j : J) : Nat → St → Option LRes := fun id _ => match id with
 | 0 => some ⟨(prts (j.kind == 5) j.keys j.items, j.items.length == 0), fun y => .one { keep := [1, 3, 9, 10, 11] } (stIP j [] 0 true) (.exit 0) (stIPx j y.1 y.2)⟩
 | _ => none
noncomputable def EIPj (j : J) : Env := { P := Tryz.prog, vw := vwA, res := resIP, ls := lsIPr j, vs := [(12, 4, .str ([[102, 97, 108, 115, 101], [116, 114, 117, 101]].getD j.n.toNat []))] }
set_option maxRecDepth 100000 in
theorem iprintT (j : J) : fnT (EIPj j) 0 fIPrint [.agg (vwJ j)] [] = (
 .bind (prts (J.kind j == 5) (J.keys j) (J.items j), List.length (J.items j) == 0) fun y0 => .need [St.mk (mkTm 66 [(1, .ptr 0 0), (3, .sl 1 0 0 true), (9, .dsl (List.length (J.items j)) false (encs encJ (J.items j))), (10, .int .i64
 (↑(List.length (J.items j)) : Int)), (11, .int .i64 0)]) [some (vwJ j, 25), some ([.sld []], 9)] [] = St.mk (mkTm 66 [(1, .ptr 0 0), (3, .sl 1 0 0 true), (9, .dsl (List.length (J.items j)) false (encs encJ (J.items j))), (10, .int .i64
 (↑(List.length (J.items j)) : Int)), (11, .int .i64 0)]) [some (vwJ j, 25), some ([.sld []], 9)] [], SoundC Tryz.prog 0 (blk Tryz.prog fIPrint 0) (St.mk (mkTm 66 [(1, .ptr 0 0), (3, .sl 1 0 0 true), (9, .dsl (List.length (J.items j)) false
 (encs encJ (J.items j))), (10, .int .i64 (↑(List.length (J.items j)) : Int)), (11, .int .i64 0)]) [some (vwJ j, 25), some ([.sld []], 9)] []) (Ex.exit 0) (St.mk (mkTm 66 [(1, .ptr 0 0), (3, .sl 1 0 y0.1.length y0.2)]) [some (vwJ j, 25),
 some ([.sld (encs encStr y0.1)], 9)] [])] (bif J.kind j == 1 then .need [0 ≤ J.n j ∧ J.n j < 2] (.need [([.str [102, 97, 108, 115, 101], .str [116, 114, 117, 101]] : List V)[0 + Int.toNat (J.n j) * 1]? = some (.str (List.getD [[(102 :
 UInt8), 97, 108, 115, 101], [(116 : UInt8), 114, 117, 101]] (Int.toNat (J.n j)) []))] (.done (Ret.mk (.str (List.getD [[(102 : UInt8), 97, 108, 115, 101], [(116 : UInt8), 114, 117, 101]] (Int.toNat (J.n j)) [])) [] []))) else bif J.kind j
 == 2 then .bind (dg (J.n j)) fun y1 => .need [FnOK Tryz.prog 54 [.int .i64 (J.n j)] [] (Ret.mk (.str y1) [] [])] (.done (Ret.mk (.str y1) [] [])) else bif J.kind j == 3 then .bind (quo (J.t j)) fun y2 => .need [FnOK Tryz.prog 53 [.str (J.t
 j)] [] (Ret.mk (.str y2) [] [])] (.done (Ret.mk (.str y2) [] [])) else bif J.kind j == 4 then .bind (Lib.join (decL encStr (encs encStr y0.1)) [(44 : UInt8)]) fun y3 => .need [FnOK Tryz.prog 55 [.sl 0 0 y0.1.length y0.2, .str [44]] [some
 ([.sld (encs encStr y0.1)], 9)] (Ret.mk (.str y3) [none] [0])] (.need [1 + y3.length ≤ 4611686018427387904] (.need [List.length ([(91 : UInt8)] ++ y3) + 1 ≤ 4611686018427387904] (.done (Ret.mk (.str ([(91 : UInt8)] ++ y3 ++ [(93 : UInt8)]))
 [] [])))) else bif J.kind j == 5 then .bind (Lib.join (decL encStr (encs encStr y0.1)) [(44 : UInt8)]) fun y4 => .need [FnOK Tryz.prog 55 [.sl 0 0 y0.1.length y0.2, .str [44]] [some ([.sld (encs encStr y0.1)], 9)] (Ret.mk (.str y4) [none]
 [0])] (.need [1 + y4.length ≤ 4611686018427387904] (.need [List.length ([(123 : UInt8)] ++ y4) + 1 ≤ 4611686018427387904] (.done (Ret.mk (.str ([(123 : UInt8)] ++ y4 ++ [(125 : UInt8)])) [] [])))) else .done (Ret.mk (.str [110, 117, 108,
 108]) [] [])) : T _) := (T.force_eq _).symm.trans (by kernel_rfl)
theorem iprint_top (j : J) (h : PrTop j) (hk : 0 ≤ j.kind ∧ j.kind ≤ 5) (ht : j.t.length ≤ 500000) (hj : IPrOK j) (hlen : (pjs (j.kind == 5) true j.keys j.items).length ≤ 140737488355328) : FnOK Tryz.prog fIPrint [.agg (vwJ j)] [] ⟨.str (pj j), [], []⟩ := by
 refine fnOK_TL (E := EIPj j) follows named (iprintT j) (by simp) ?_
 simp only [WP_cond, T.WP, All, and_true, beq_iff_eq, beq_eq_false_iff_ne, ne_eq]
 rintro y rfl
 rw [layStr.decL]
 simp only [join_pjs]
 have h0 := ipr_loop j hj j.items.length [] 0 true (by omega) rfl (fun h => by omega)
 simp only [List.drop_zero, List.nil_append, Bool.true_and] at h0
 have hjoin : FnOK Tryz.prog fJoin [.sl 0 0 (prts (j.kind == 5) j.keys j.items).length (j.items.length == 0), .str [44]] [some ([.sld (encs encStr (prts (j.kind == 5) j.keys j.items))], tStr)] ⟨.str (pjs (j.kind == 5) true j.keys j.items), [none], [0]⟩ := by
  refine FnOK.give (cs := encs encStr (prts (j.kind == 5) j.keys j.items)) (by simp [V.refsL, V.refs]) (by simp [flat]) ?_
  have h1 := join_ok (prts (j.kind == 5) j.keys j.items) [44] (by rw [prts_len]; have := hj.len; omega) (by rw [join_pjs]; exact hlen)
  rw [join_pjs] at h1
  exact h1
 have hp := pj_eq j
 refine ⟨⟨trivial, .loopTo h0⟩, fun h1 => ⟨h.bool h1, ?_, by rw [hp, if_neg (by omega), if_pos h1], rfl, by simp⟩, fun h1 => ⟨fun h2 => ?_, fun h2 => ⟨fun h3 => ?_, fun h3 => ⟨fun h4 => ?_, fun h4 => ⟨fun h5 => ?_, fun h5 => ?_⟩⟩⟩⟩⟩
 ·have := h.bool h1
  have h01 : j.n.toNat = 0 ∨ j.n.toNat = 1 := by omega
  rcases h01 with e | e <;> rw [e] <;> rfl
 ·rintro y rfl
  refine ⟨?_, by rw [hp, if_neg (by omega), if_neg h1, if_pos h2], rfl, by simp⟩
  have := itoa_ok j.n ⟨by have := h.num; omega, h.num.2⟩
  rw [itoa_dg j.n h.num] at this
  exact this
 ·rintro y rfl
  exact ⟨quoted_ok' _ ht, by rw [hp, if_neg (by omega), if_neg h1, if_neg h2, if_pos h3], rfl, by simp⟩
 ·rintro y rfl
  refine ⟨hjoin, by omega, by simp only [List.length_append, List.length_singleton]; omega, ?_, rfl, by simp⟩
  rw [hp, if_neg (by omega), if_neg h1, if_neg h2, if_neg h3, if_neg (by omega), if_neg (by omega)]
 ·rintro y rfl
  refine ⟨hjoin, by omega, by simp only [List.length_append, List.length_singleton]; omega, ?_, rfl, by simp⟩
  rw [hp, if_neg (by omega), if_neg h1, if_neg h2, if_neg h3, if_pos h5, if_pos h5]
 ·refine ⟨?_, rfl, by simp⟩
  rw [hp, if_pos (by omega)]
end Go.Proofs.YtfncaghjfgnnhaaGreatDoor

namespace Go.Proofs.YtfncaghjfgnnhaaGreatDoor
open Go.RowKit
set_option maxRecDepth 100000
noncomputable def resSO1 (val : SS → J × SS) : ResT := fun f vs hp => match vs, hp with
 | [.ptr 0 0], [some ([.str t, .int _ i, .int _ n, .bool ok], _)] => bif Nat.beq f fSText then some ⟨stxE ok (t.drop i.toNat), fun y => ⟨.str y.1, [ssB t ⟨y.2.2, n, y.2.1⟩], [0]⟩⟩ else none
 | vs, hp => resSV val f vs hp
def nO5 (ks : List (List UInt8)) (its : List J) : Option Blk := some ([.int .i64 5, .int .i64 0, .str [], .dsl ks.length false (encs encStr ks), .dsl its.length false (encs encJ its)], tJ)
def stKp (t : List UInt8) (i n : Int) (ok : Bool) (d : Int) (K : List (List UInt8)) (L : List J) (key : List UInt8) (v : J) (k : Int) : St := ⟨mkTm 99 [(0, .ptr 0 0), (1, .int .i64 d), (4, .ptr 1 0), (5, .ptr 2 0), (6, .str key), (7, .ptr 3 0), (8, .int .i64 k)], [sdI t i n ok, zJ, nO5 K L, some (vwJ v, tJ)], [0]⟩
def nfKp : Ex → Kp := fun _ => { keep := [0, 1, 4, 5, 6, 7, 8], wr := [0], perm := some ([0, 1, 2, 3], []) }
def nfSO : Ex → Kp := fun _ => { keep := [0, 1, 4, 5], wr := [0], perm := some ([0, 1, 2], []) }
noncomputable def ESO1 (val : SS → J × SS) : Env := { P := Tryz.prog, vw := vwA, res := resSO1 val }
--FOLD vwJ sdI ssB zJ nO5
set_option maxRecDepth 100000 in
theorem kpT (t : List UInt8) (i n : Int) (ok : Bool) (d : Int) (K : List (List UInt8)) (L : List J) (key : List UInt8) (v : J) (k : Int) : bodyT (ESO1 (fun x => (J.zero, x))) 1 nfKp (lp Tryz.prog fSObj 2) (stKp t i n ok d K L key v k) = (
 bif decide (k < (↑K.length : Int)) then .need [0 ≤ k ∧ k < (↑K.length : Int), List.take 1 (List.drop (Int.toNat k * 1) (encs encStr K)) = [.str (List.getD (decL encStr (encs encStr K)) (Int.toNat k) [])]] (bif Op.bytesLess (List.getD (decL
 encStr (encs encStr K)) (Int.toNat k) []) key then .done (Ex.normal, St.mk (mkTm 99 [(0, .ptr 0 0), (1, .int .i64 d), (4, .ptr 1 0), (5, .ptr 2 0), (6, .str key), (7, .ptr 3 0), (8, .int .i64 (IntKind.wrap IntKind.i64 (k + 1)))]) [sdI t i n
 ok, zJ, nO5 K L, some (vwJ v, 25)] [0]) else .done (Ex.exit 2, St.mk (mkTm 99 [(0, .ptr 0 0), (1, .int .i64 d), (4, .ptr 1 0), (5, .ptr 2 0), (6, .str key), (7, .ptr 3 0), (8, .int .i64 k)]) [sdI t i n ok, zJ, nO5 K L, some (vwJ v, 25)]
 [0])) else .done (Ex.exit 2, St.mk (mkTm 99 [(0, .ptr 0 0), (1, .int .i64 d), (4, .ptr 1 0), (5, .ptr 2 0), (6, .str key), (7, .ptr 3 0), (8, .int .i64 k)]) [sdI t i n ok, zJ, nO5 K L, some (vwJ v, 25)] [0]) : T _) := by kernel_rfl
def stSO (t : List UInt8) (i n : Int) (ok : Bool) (d : Int) (K : List (List UInt8)) (L : List J) : St := ⟨mkTm 99 [(0, .ptr 0 0), (1, .int .i64 d), (4, .ptr 1 0), (5, .ptr 2 0)], [sdI t i n ok, zJ, nO5 K L], [0]⟩
noncomputable def lsKp : Nat → St → Option LRes := fun id s => match id, s.tm.get 1, s.tm.get 6, s.hp with
 | 2, .int _ d, .str key, some ([.str t, .int _ i, .int _ n, .bool ok], _) :: _ :: some ([_, _, _, .dsl _ _ ks, .dsl _ _ its], _) :: some ([.int _ a, .int _ b, .str c, .dsl _ _ e, .dsl _ _ g], _) :: _ => some ⟨(kPos key (decL encStr ks), jOf a b c e g), fun (y : Nat × J) => .one { keep := [0, 1, 4, 5, 6, 7, 8], wr := [0], perm := some ([0, 1, 2, 3], []) } (stKp t i n ok d (decL encStr ks) (decL encJ its) key y.2 0) (.exit 2) (stKp t i n ok d (decL encStr ks) (decL encJ its) key y.2 (y.1 : Nat))⟩
 | _, _, _, _ => none
noncomputable def ESP (val : SS → J × SS) : Env := { P := Tryz.prog, vw := vwA, res := resSO1 val, ls := lsKp }
set_option maxRecDepth 100000 in
theorem soT (val : SS → J × SS) (t : List UInt8) (i n : Int) (ok : Bool) (d : Int) (K : List (List UInt8)) (L : List J) : bodyT (ESP val) 1 nfSO (lp Tryz.prog fSObj 0) (stSO t i n ok d K L) = (
 bif ok then .bind (SS.tk (125 : UInt8) (SS.mk (List.drop (Int.toNat i) t) n ok)) fun y0 => .need [FnOK Tryz.prog 68 [.ptr 0 0, .int .u8 125] [sdI t i n ok] (Ret.mk (.bool y0.1) [sdI t (↑(pos' t (SS.s y0.2)) : Int) (SS.n y0.2) (SS.ok y0.2)]
 [0])] (bif !y0.1 then bif decide ((↑L.length : Int) > 0) then .bind (SS.nd (44 : UInt8) (SS.mk (List.drop (Int.toNat (↑(pos' t (SS.s y0.2)) : Int)) t) (SS.n y0.2) (SS.ok y0.2))) fun y1 => .need [FnOK Tryz.prog 92 [.ptr 0 0, .int .u8 44]
 [sdI t (↑(pos' t (SS.s y0.2)) : Int) (SS.n y0.2) (SS.ok y0.2)] (Ret.mk (.tup []) [sdI t (↑(pos' t (SS.s y1)) : Int) (SS.n y1) (SS.ok y1)] [0])] (.bind (SS.nd (34 : UInt8) (SS.mk (List.drop (Int.toNat (↑(pos' t (SS.s y1)) : Int)) t) (SS.n
 y1) (SS.ok y1))) fun y2 => .need [FnOK Tryz.prog 92 [.ptr 0 0, .int .u8 34] [sdI t (↑(pos' t (SS.s y1)) : Int) (SS.n y1) (SS.ok y1)] (Ret.mk (.tup []) [sdI t (↑(pos' t (SS.s y2)) : Int) (SS.n y2) (SS.ok y2)] [0])] (.bind (stxE (SS.ok y2)
 (List.drop (Int.toNat (↑(pos' t (SS.s y2)) : Int)) t)) fun y3 => .need [FnOK Tryz.prog 69 [.ptr 0 0] [sdI t (↑(pos' t (SS.s y2)) : Int) (SS.n y2) (SS.ok y2)] (Ret.mk (.str y3.1) [sdI t (↑(pos' t (SS.s (SS.mk (y3.2.2) (SS.n y2) (y3.2.1)))) :
 Int) (SS.n (SS.mk (y3.2.2) (SS.n y2) (y3.2.1))) (SS.ok (SS.mk (y3.2.2) (SS.n y2) (y3.2.1)))] [0])] (.bind (SS.nd (58 : UInt8) (SS.mk (List.drop (Int.toNat (↑(pos' t (SS.s (SS.mk (y3.2.2) (SS.n y2) (y3.2.1)))) : Int)) t) (SS.n (SS.mk
 (y3.2.2) (SS.n y2) (y3.2.1))) (SS.ok (SS.mk (y3.2.2) (SS.n y2) (y3.2.1))))) fun y4 => .need [FnOK Tryz.prog 92 [.ptr 0 0, .int .u8 58] [sdI t (↑(pos' t (SS.s (SS.mk (y3.2.2) (SS.n y2) (y3.2.1)))) : Int) (SS.n (SS.mk (y3.2.2) (SS.n y2)
 (y3.2.1))) (SS.ok (SS.mk (y3.2.2) (SS.n y2) (y3.2.1)))] (Ret.mk (.tup []) [sdI t (↑(pos' t (SS.s y4)) : Int) (SS.n y4) (SS.ok y4)] [0])] (.bind (val (SS.mk (List.drop (Int.toNat (↑(pos' t (SS.s y4)) : Int)) t) (SS.n y4) (SS.ok y4))) fun y5
 => .need [FnOK Tryz.prog 45 [.ptr 0 0, .int .i64 (IntKind.wrap IntKind.i64 (d - 1))] [sdI t (↑(pos' t (SS.s y4)) : Int) (SS.n y4) (SS.ok y4)] (Ret.mk (.agg (vwJ y5.1)) [sdI t (↑(pos' t (SS.s y5.2)) : Int) (SS.n y5.2) (SS.ok y5.2)] [0])]
 (.bind (kPos y3.1 (decL encStr (encs encStr K)), jOf (J.kind y5.1) (J.n y5.1) (J.t y5.1) (encs encStr (J.keys y5.1)) (encs encJ (J.items y5.1))) fun y6 => .need [St.mk (mkTm 99 [(0, .ptr 0 0), (1, .int .i64 d), (4, .ptr 1 0), (5, .ptr 2 0),
 (6, .str y3.1), (7, .ptr 3 0), (8, .int .i64 0)]) [sdI t (↑(pos' t (SS.s y5.2)) : Int) (SS.n y5.2) (SS.ok y5.2), zJ, nO5 K L, some (vwJ y5.1, 25)] [0] = St.mk (mkTm 99 [(0, .ptr 0 0), (1, .int .i64 d), (4, .ptr 1 0), (5, .ptr 2 0), (6, .str
 y3.1), (7, .ptr 3 0), (8, .int .i64 0)]) [sdI t (↑(pos' t (SS.s y5.2)) : Int) (SS.n y5.2) (SS.ok y5.2), zJ, nO5 (decL encStr (encs encStr K)) (decL encJ (encs encJ L)), some (vwJ y6.2, 25)] [0], SoundC Tryz.prog 1 (blk Tryz.prog fSObj 2)
 (St.mk (mkTm 99 [(0, .ptr 0 0), (1, .int .i64 d), (4, .ptr 1 0), (5, .ptr 2 0), (6, .str y3.1), (7, .ptr 3 0), (8, .int .i64 0)]) [sdI t (↑(pos' t (SS.s y5.2)) : Int) (SS.n y5.2) (SS.ok y5.2), zJ, nO5 (decL encStr (encs encStr K)) (decL
 encJ (encs encJ L)), some (vwJ y6.2, 25)] [0]) (Ex.exit 2) (St.mk (mkTm 99 [(0, .ptr 0 0), (1, .int .i64 d), (4, .ptr 1 0), (5, .ptr 2 0), (6, .str y3.1), (7, .ptr 3 0), (8, .int .i64 (↑y6.1 : Int))]) [sdI t (↑(pos' t (SS.s y5.2)) : Int)
 (SS.n y5.2) (SS.ok y5.2), zJ, nO5 (decL encStr (encs encStr K)) (decL encJ (encs encJ L)), some (vwJ y6.2, 25)] [0])] (bif decide ((↑y6.1 : Int) < (↑(List.length (decL encStr (encs encStr K))) : Int)) then .need [(0 : Int) ≤ (↑y6.1 : Int) ∧
 (↑y6.1 : Int) < (↑(List.length (decL encStr (encs encStr K))) : Int), List.take 1 (List.drop (Int.toNat (↑y6.1 : Int) * 1) (encs encStr (decL encStr (encs encStr K)))) = [.str (List.getD (decL encStr (encs encStr (decL encStr (encs encStr
 K)))) (Int.toNat (↑y6.1 : Int)) [])]] (bif List.getD (decL encStr (encs encStr (decL encStr (encs encStr K)))) (Int.toNat (↑y6.1 : Int)) [] == y3.1 then .need [(0 : Int) ≤ (↑y6.1 : Int) ∧ (↑y6.1 : Int) ≤ (↑(List.length (decL encStr (encs
 encStr K))) : Int)] (.need [List.length (List.drop 0 (List.take (Int.toNat (↑y6.1 : Int) * 1) (encs encStr (decL encStr (encs encStr K))))) = (Int.toNat (↑y6.1 : Int) - 0) * 1, List.all (List.drop 0 (List.take (Int.toNat (↑y6.1 : Int) * 1)
 (encs encStr (decL encStr (encs encStr K))))) V.one = true, 0 = 0, 0 = 0, 0 + (Int.toNat (↑y6.1 : Int) - 0) ≤ 9223372036854775807, (0 + (Int.toNat (↑y6.1 : Int) - 0)) * 16 ≤ 140737488355328] (.need [0 = 0, List.length (List.drop 0
 (List.take (Int.toNat (↑y6.1 : Int) * 1) (encs encStr (decL encStr (encs encStr K))))) = (0 + (Int.toNat (↑y6.1 : Int) - 0)) * 1, 0 + (Int.toNat (↑y6.1 : Int) - 0) + 1 ≤ 9223372036854775807, (0 + (Int.toNat (↑y6.1 : Int) - 0) + 1) * 16 ≤
 140737488355328] (.need [(0 : Int) ≤ (↑y6.1 : Int) ∧ (↑y6.1 : Int) ≤ (↑(List.length (decL encStr (encs encStr K))) : Int)] (.need [List.length (List.drop (Int.toNat (↑y6.1 : Int) * 1) (List.take (List.length (decL encStr (encs encStr K)) *
 1) (encs encStr (decL encStr (encs encStr K))))) = (List.length (decL encStr (encs encStr K)) - Int.toNat (↑y6.1 : Int)) * 1, List.all (List.drop (Int.toNat (↑y6.1 : Int) * 1) (List.take (List.length (decL encStr (encs encStr K)) * 1) (encs
 encStr (decL encStr (encs encStr K))))) V.one = true, 0 = 0, List.length (List.drop 0 (List.take (Int.toNat (↑y6.1 : Int) * 1) (encs encStr (decL encStr (encs encStr K)))) ++ [.str y3.1]) = (0 + (Int.toNat (↑y6.1 : Int) - 0) + 1) * 1, 0 +
 (Int.toNat (↑y6.1 : Int) - 0) + 1 + (List.length (decL encStr (encs encStr K)) - Int.toNat (↑y6.1 : Int)) ≤ 9223372036854775807, (0 + (Int.toNat (↑y6.1 : Int) - 0) + 1 + (List.length (decL encStr (encs encStr K)) - Int.toNat (↑y6.1 : Int)))
 * 16 ≤ 140737488355328] (.need [(0 : Int) ≤ (↑y6.1 : Int) ∧ (↑y6.1 : Int) ≤ (↑(List.length (decL encJ (encs encJ L))) : Int)] (.need [List.length (List.drop 0 (List.take (Int.toNat (↑y6.1 : Int) * 5) (encs encJ (decL encJ (encs encJ L)))))
 = (Int.toNat (↑y6.1 : Int) - 0) * 5, List.all (List.drop 0 (List.take (Int.toNat (↑y6.1 : Int) * 5) (encs encJ (decL encJ (encs encJ L))))) V.one = true, 0 = 0, 0 = 0, 0 + (Int.toNat (↑y6.1 : Int) - 0) ≤ 9223372036854775807, (0 + (Int.toNat
 (↑y6.1 : Int) - 0)) * 80 ≤ 140737488355328] (.need [0 = 0, List.length (List.drop 0 (List.take (Int.toNat (↑y6.1 : Int) * 5) (encs encJ (decL encJ (encs encJ L))))) = (0 + (Int.toNat (↑y6.1 : Int) - 0)) * 5, 0 + (Int.toNat (↑y6.1 : Int) -
 0) + 1 ≤ 9223372036854775807, (0 + (Int.toNat (↑y6.1 : Int) - 0) + 1) * 80 ≤ 140737488355328] (.need [(0 : Int) ≤ (↑y6.1 : Int) ∧ (↑y6.1 : Int) ≤ (↑(List.length (decL encJ (encs encJ L))) : Int)] (.need [List.length (List.drop (Int.toNat
 (↑y6.1 : Int) * 5) (List.take (List.length (decL encJ (encs encJ L)) * 5) (encs encJ (decL encJ (encs encJ L))))) = (List.length (decL encJ (encs encJ L)) - Int.toNat (↑y6.1 : Int)) * 5, List.all (List.drop (Int.toNat (↑y6.1 : Int) * 5)
 (List.take (List.length (decL encJ (encs encJ L)) * 5) (encs encJ (decL encJ (encs encJ L))))) V.one = true, 0 = 0, List.length (List.drop 0 (List.take (Int.toNat (↑y6.1 : Int) * 5) (encs encJ (decL encJ (encs encJ L)))) ++ [.int .i64
 (J.kind y6.2), .int .i64 (J.n y6.2), .str (J.t y6.2), .dsl (List.length (J.keys y6.2)) false (encs encStr (J.keys y6.2)), .dsl (List.length (J.items y6.2)) false (encs encJ (J.items y6.2))]) = (0 + (Int.toNat (↑y6.1 : Int) - 0) + 1) * 5, 0
 + (Int.toNat (↑y6.1 : Int) - 0) + 1 + (List.length (decL encJ (encs encJ L)) - Int.toNat (↑y6.1 : Int)) ≤ 9223372036854775807, (0 + (Int.toNat (↑y6.1 : Int) - 0) + 1 + (List.length (decL encJ (encs encJ L)) - Int.toNat (↑y6.1 : Int))) * 80
 ≤ 140737488355328] (.done (Ex.normal, St.mk (mkTm 99 [(0, .ptr 0 0), (1, .int .i64 d), (4, .ptr 1 0), (5, .ptr 2 0)]) [sdI t (↑(pos' t (SS.s y5.2)) : Int) (SS.n y5.2) false, zJ, some ([.int .i64 5, .int .i64 0, .str [], .dsl (0 + (Int.toNat
 (↑y6.1 : Int) - 0) + 1 + (List.length (decL encStr (encs encStr K)) - Int.toNat (↑y6.1 : Int))) false (List.drop 0 (List.take (Int.toNat (↑y6.1 : Int) * 1) (encs encStr (decL encStr (encs encStr K)))) ++ .str y3.1 :: List.drop (Int.toNat
 (↑y6.1 : Int) * 1) (List.take (List.length (decL encStr (encs encStr K)) * 1) (encs encStr (decL encStr (encs encStr K))))), .dsl (0 + (Int.toNat (↑y6.1 : Int) - 0) + 1 + (List.length (decL encJ (encs encJ L)) - Int.toNat (↑y6.1 : Int)))
 false (List.drop 0 (List.take (Int.toNat (↑y6.1 : Int) * 5) (encs encJ (decL encJ (encs encJ L)))) ++ .int .i64 (J.kind y6.2) :: .int .i64 (J.n y6.2) :: .str (J.t y6.2) :: .dsl (List.length (J.keys y6.2)) false (encs encStr (J.keys y6.2))
 :: .dsl (List.length (J.items y6.2)) false (encs encJ (J.items y6.2)) :: List.drop (Int.toNat (↑y6.1 : Int) * 5) (List.take (List.length (decL encJ (encs encJ L)) * 5) (encs encJ (decL encJ (encs encJ L)))))], 25)] [0]))))))))))) else .need
 [(0 : Int) ≤ (↑y6.1 : Int) ∧ (↑y6.1 : Int) ≤ (↑(List.length (decL encStr (encs encStr K))) : Int)] (.need [List.length (List.drop 0 (List.take (Int.toNat (↑y6.1 : Int) * 1) (encs encStr (decL encStr (encs encStr K))))) = (Int.toNat (↑y6.1 :
 Int) - 0) * 1, List.all (List.drop 0 (List.take (Int.toNat (↑y6.1 : Int) * 1) (encs encStr (decL encStr (encs encStr K))))) V.one = true, 0 = 0, 0 = 0, 0 + (Int.toNat (↑y6.1 : Int) - 0) ≤ 9223372036854775807, (0 + (Int.toNat (↑y6.1 : Int) -
 0)) * 16 ≤ 140737488355328] (.need [0 = 0, List.length (List.drop 0 (List.take (Int.toNat (↑y6.1 : Int) * 1) (encs encStr (decL encStr (encs encStr K))))) = (0 + (Int.toNat (↑y6.1 : Int) - 0)) * 1, 0 + (Int.toNat (↑y6.1 : Int) - 0) + 1 ≤
 9223372036854775807, (0 + (Int.toNat (↑y6.1 : Int) - 0) + 1) * 16 ≤ 140737488355328] (.need [(0 : Int) ≤ (↑y6.1 : Int) ∧ (↑y6.1 : Int) ≤ (↑(List.length (decL encStr (encs encStr K))) : Int)] (.need [List.length (List.drop (Int.toNat (↑y6.1
 : Int) * 1) (List.take (List.length (decL encStr (encs encStr K)) * 1) (encs encStr (decL encStr (encs encStr K))))) = (List.length (decL encStr (encs encStr K)) - Int.toNat (↑y6.1 : Int)) * 1, List.all (List.drop (Int.toNat (↑y6.1 : Int) *
 1) (List.take (List.length (decL encStr (encs encStr K)) * 1) (encs encStr (decL encStr (encs encStr K))))) V.one = true, 0 = 0, List.length (List.drop 0 (List.take (Int.toNat (↑y6.1 : Int) * 1) (encs encStr (decL encStr (encs encStr K))))
 ++ [.str y3.1]) = (0 + (Int.toNat (↑y6.1 : Int) - 0) + 1) * 1, 0 + (Int.toNat (↑y6.1 : Int) - 0) + 1 + (List.length (decL encStr (encs encStr K)) - Int.toNat (↑y6.1 : Int)) ≤ 9223372036854775807, (0 + (Int.toNat (↑y6.1 : Int) - 0) + 1 +
 (List.length (decL encStr (encs encStr K)) - Int.toNat (↑y6.1 : Int))) * 16 ≤ 140737488355328] (.need [(0 : Int) ≤ (↑y6.1 : Int) ∧ (↑y6.1 : Int) ≤ (↑(List.length (decL encJ (encs encJ L))) : Int)] (.need [List.length (List.drop 0 (List.take
 (Int.toNat (↑y6.1 : Int) * 5) (encs encJ (decL encJ (encs encJ L))))) = (Int.toNat (↑y6.1 : Int) - 0) * 5, List.all (List.drop 0 (List.take (Int.toNat (↑y6.1 : Int) * 5) (encs encJ (decL encJ (encs encJ L))))) V.one = true, 0 = 0, 0 = 0, 0
 + (Int.toNat (↑y6.1 : Int) - 0) ≤ 9223372036854775807, (0 + (Int.toNat (↑y6.1 : Int) - 0)) * 80 ≤ 140737488355328] (.need [0 = 0, List.length (List.drop 0 (List.take (Int.toNat (↑y6.1 : Int) * 5) (encs encJ (decL encJ (encs encJ L))))) = (0
 + (Int.toNat (↑y6.1 : Int) - 0)) * 5, 0 + (Int.toNat (↑y6.1 : Int) - 0) + 1 ≤ 9223372036854775807, (0 + (Int.toNat (↑y6.1 : Int) - 0) + 1) * 80 ≤ 140737488355328] (.need [(0 : Int) ≤ (↑y6.1 : Int) ∧ (↑y6.1 : Int) ≤ (↑(List.length (decL encJ
 (encs encJ L))) : Int)] (.need [List.length (List.drop (Int.toNat (↑y6.1 : Int) * 5) (List.take (List.length (decL encJ (encs encJ L)) * 5) (encs encJ (decL encJ (encs encJ L))))) = (List.length (decL encJ (encs encJ L)) - Int.toNat (↑y6.1
 : Int)) * 5, List.all (List.drop (Int.toNat (↑y6.1 : Int) * 5) (List.take (List.length (decL encJ (encs encJ L)) * 5) (encs encJ (decL encJ (encs encJ L))))) V.one = true, 0 = 0, List.length (List.drop 0 (List.take (Int.toNat (↑y6.1 : Int)
 * 5) (encs encJ (decL encJ (encs encJ L)))) ++ [.int .i64 (J.kind y6.2), .int .i64 (J.n y6.2), .str (J.t y6.2), .dsl (List.length (J.keys y6.2)) false (encs encStr (J.keys y6.2)), .dsl (List.length (J.items y6.2)) false (encs encJ (J.items
 y6.2))]) = (0 + (Int.toNat (↑y6.1 : Int) - 0) + 1) * 5, 0 + (Int.toNat (↑y6.1 : Int) - 0) + 1 + (List.length (decL encJ (encs encJ L)) - Int.toNat (↑y6.1 : Int)) ≤ 9223372036854775807, (0 + (Int.toNat (↑y6.1 : Int) - 0) + 1 + (List.length
 (decL encJ (encs encJ L)) - Int.toNat (↑y6.1 : Int))) * 80 ≤ 140737488355328] (.done (Ex.normal, St.mk (mkTm 99 [(0, .ptr 0 0), (1, .int .i64 d), (4, .ptr 1 0), (5, .ptr 2 0)]) [sdI t (↑(pos' t (SS.s y5.2)) : Int) (SS.n y5.2) (SS.ok y5.2),
 zJ, some ([.int .i64 5, .int .i64 0, .str [], .dsl (0 + (Int.toNat (↑y6.1 : Int) - 0) + 1 + (List.length (decL encStr (encs encStr K)) - Int.toNat (↑y6.1 : Int))) false (List.drop 0 (List.take (Int.toNat (↑y6.1 : Int) * 1) (encs encStr
 (decL encStr (encs encStr K)))) ++ .str y3.1 :: List.drop (Int.toNat (↑y6.1 : Int) * 1) (List.take (List.length (decL encStr (encs encStr K)) * 1) (encs encStr (decL encStr (encs encStr K))))), .dsl (0 + (Int.toNat (↑y6.1 : Int) - 0) + 1 +
 (List.length (decL encJ (encs encJ L)) - Int.toNat (↑y6.1 : Int))) false (List.drop 0 (List.take (Int.toNat (↑y6.1 : Int) * 5) (encs encJ (decL encJ (encs encJ L)))) ++ .int .i64 (J.kind y6.2) :: .int .i64 (J.n y6.2) :: .str (J.t y6.2) ::
 .dsl (List.length (J.keys y6.2)) false (encs encStr (J.keys y6.2)) :: .dsl (List.length (J.items y6.2)) false (encs encJ (J.items y6.2)) :: List.drop (Int.toNat (↑y6.1 : Int) * 5) (List.take (List.length (decL encJ (encs encJ L)) * 5) (encs
 encJ (decL encJ (encs encJ L)))))], 25)] [0])))))))))))) else .need [(0 : Int) ≤ (↑y6.1 : Int) ∧ (↑y6.1 : Int) ≤ (↑(List.length (decL encStr (encs encStr K))) : Int)] (.need [List.length (List.drop 0 (List.take (Int.toNat (↑y6.1 : Int) * 1)
 (encs encStr (decL encStr (encs encStr K))))) = (Int.toNat (↑y6.1 : Int) - 0) * 1, List.all (List.drop 0 (List.take (Int.toNat (↑y6.1 : Int) * 1) (encs encStr (decL encStr (encs encStr K))))) V.one = true, 0 = 0, 0 = 0, 0 + (Int.toNat
 (↑y6.1 : Int) - 0) ≤ 9223372036854775807, (0 + (Int.toNat (↑y6.1 : Int) - 0)) * 16 ≤ 140737488355328] (.need [0 = 0, List.length (List.drop 0 (List.take (Int.toNat (↑y6.1 : Int) * 1) (encs encStr (decL encStr (encs encStr K))))) = (0 +
 (Int.toNat (↑y6.1 : Int) - 0)) * 1, 0 + (Int.toNat (↑y6.1 : Int) - 0) + 1 ≤ 9223372036854775807, (0 + (Int.toNat (↑y6.1 : Int) - 0) + 1) * 16 ≤ 140737488355328] (.need [(0 : Int) ≤ (↑y6.1 : Int) ∧ (↑y6.1 : Int) ≤ (↑(List.length (decL encStr
 (encs encStr K))) : Int)] (.need [List.length (List.drop (Int.toNat (↑y6.1 : Int) * 1) (List.take (List.length (decL encStr (encs encStr K)) * 1) (encs encStr (decL encStr (encs encStr K))))) = (List.length (decL encStr (encs encStr K)) -
 Int.toNat (↑y6.1 : Int)) * 1, List.all (List.drop (Int.toNat (↑y6.1 : Int) * 1) (List.take (List.length (decL encStr (encs encStr K)) * 1) (encs encStr (decL encStr (encs encStr K))))) V.one = true, 0 = 0, List.length (List.drop 0
 (List.take (Int.toNat (↑y6.1 : Int) * 1) (encs encStr (decL encStr (encs encStr K)))) ++ [.str y3.1]) = (0 + (Int.toNat (↑y6.1 : Int) - 0) + 1) * 1, 0 + (Int.toNat (↑y6.1 : Int) - 0) + 1 + (List.length (decL encStr (encs encStr K)) -
 Int.toNat (↑y6.1 : Int)) ≤ 9223372036854775807, (0 + (Int.toNat (↑y6.1 : Int) - 0) + 1 + (List.length (decL encStr (encs encStr K)) - Int.toNat (↑y6.1 : Int))) * 16 ≤ 140737488355328] (.need [(0 : Int) ≤ (↑y6.1 : Int) ∧ (↑y6.1 : Int) ≤
 (↑(List.length (decL encJ (encs encJ L))) : Int)] (.need [List.length (List.drop 0 (List.take (Int.toNat (↑y6.1 : Int) * 5) (encs encJ (decL encJ (encs encJ L))))) = (Int.toNat (↑y6.1 : Int) - 0) * 5, List.all (List.drop 0 (List.take
 (Int.toNat (↑y6.1 : Int) * 5) (encs encJ (decL encJ (encs encJ L))))) V.one = true, 0 = 0, 0 = 0, 0 + (Int.toNat (↑y6.1 : Int) - 0) ≤ 9223372036854775807, (0 + (Int.toNat (↑y6.1 : Int) - 0)) * 80 ≤ 140737488355328] (.need [0 = 0,
 List.length (List.drop 0 (List.take (Int.toNat (↑y6.1 : Int) * 5) (encs encJ (decL encJ (encs encJ L))))) = (0 + (Int.toNat (↑y6.1 : Int) - 0)) * 5, 0 + (Int.toNat (↑y6.1 : Int) - 0) + 1 ≤ 9223372036854775807, (0 + (Int.toNat (↑y6.1 : Int)
 - 0) + 1) * 80 ≤ 140737488355328] (.need [(0 : Int) ≤ (↑y6.1 : Int) ∧ (↑y6.1 : Int) ≤ (↑(List.length (decL encJ (encs encJ L))) : Int)] (.need [List.length (List.drop (Int.toNat (↑y6.1 : Int) * 5) (List.take (List.length (decL encJ (encs
 encJ L)) * 5) (encs encJ (decL encJ (encs encJ L))))) = (List.length (decL encJ (encs encJ L)) - Int.toNat (↑y6.1 : Int)) * 5, List.all (List.drop (Int.toNat (↑y6.1 : Int) * 5) (List.take (List.length (decL encJ (encs encJ L)) * 5) (encs
 encJ (decL encJ (encs encJ L))))) V.one = true, 0 = 0, List.length (List.drop 0 (List.take (Int.toNat (↑y6.1 : Int) * 5) (encs encJ (decL encJ (encs encJ L)))) ++ [.int .i64 (J.kind y6.2), .int .i64 (J.n y6.2), .str (J.t y6.2), .dsl
 (List.length (J.keys y6.2)) false (encs encStr (J.keys y6.2)), .dsl (List.length (J.items y6.2)) false (encs encJ (J.items y6.2))]) = (0 + (Int.toNat (↑y6.1 : Int) - 0) + 1) * 5, 0 + (Int.toNat (↑y6.1 : Int) - 0) + 1 + (List.length (decL
 encJ (encs encJ L)) - Int.toNat (↑y6.1 : Int)) ≤ 9223372036854775807, (0 + (Int.toNat (↑y6.1 : Int) - 0) + 1 + (List.length (decL encJ (encs encJ L)) - Int.toNat (↑y6.1 : Int))) * 80 ≤ 140737488355328] (.done (Ex.normal, St.mk (mkTm 99 [(0,
 .ptr 0 0), (1, .int .i64 d), (4, .ptr 1 0), (5, .ptr 2 0)]) [sdI t (↑(pos' t (SS.s y5.2)) : Int) (SS.n y5.2) (SS.ok y5.2), zJ, some ([.int .i64 5, .int .i64 0, .str [], .dsl (0 + (Int.toNat (↑y6.1 : Int) - 0) + 1 + (List.length (decL encStr
 (encs encStr K)) - Int.toNat (↑y6.1 : Int))) false (List.drop 0 (List.take (Int.toNat (↑y6.1 : Int) * 1) (encs encStr (decL encStr (encs encStr K)))) ++ .str y3.1 :: List.drop (Int.toNat (↑y6.1 : Int) * 1) (List.take (List.length (decL
 encStr (encs encStr K)) * 1) (encs encStr (decL encStr (encs encStr K))))), .dsl (0 + (Int.toNat (↑y6.1 : Int) - 0) + 1 + (List.length (decL encJ (encs encJ L)) - Int.toNat (↑y6.1 : Int))) false (List.drop 0 (List.take (Int.toNat (↑y6.1 :
 Int) * 5) (encs encJ (decL encJ (encs encJ L)))) ++ .int .i64 (J.kind y6.2) :: .int .i64 (J.n y6.2) :: .str (J.t y6.2) :: .dsl (List.length (J.keys y6.2)) false (encs encStr (J.keys y6.2)) :: .dsl (List.length (J.items y6.2)) false (encs
 encJ (J.items y6.2)) :: List.drop (Int.toNat (↑y6.1 : Int) * 5) (List.take (List.length (decL encJ (encs encJ L)) * 5) (encs encJ (decL encJ (encs encJ L)))))], 25)] [0]))))))))))))))))) else .bind (SS.nd (34 : UInt8) (SS.mk (List.drop
 (Int.toNat (↑(pos' t (SS.s y0.2)) : Int)) t) (SS.n y0.2) (SS.ok y0.2))) fun y7 => .need [FnOK Tryz.prog 92 [.ptr 0 0, .int .u8 34] [sdI t (↑(pos' t (SS.s y0.2)) : Int) (SS.n y0.2) (SS.ok y0.2)] (Ret.mk (.tup []) [sdI t (↑(pos' t (SS.s y7))
 : Int) (SS.n y7) (SS.ok y7)] [0])] (.bind (stxE (SS.ok y7) (List.drop (Int.toNat (↑(pos' t (SS.s y7)) : Int)) t)) fun y8 => .need [FnOK Tryz.prog 69 [.ptr 0 0] [sdI t (↑(pos' t (SS.s y7)) : Int) (SS.n y7) (SS.ok y7)] (Ret.mk (.str y8.1)
 [sdI t (↑(pos' t (SS.s (SS.mk (y8.2.2) (SS.n y7) (y8.2.1)))) : Int) (SS.n (SS.mk (y8.2.2) (SS.n y7) (y8.2.1))) (SS.ok (SS.mk (y8.2.2) (SS.n y7) (y8.2.1)))] [0])] (.bind (SS.nd (58 : UInt8) (SS.mk (List.drop (Int.toNat (↑(pos' t (SS.s (SS.mk
 (y8.2.2) (SS.n y7) (y8.2.1)))) : Int)) t) (SS.n (SS.mk (y8.2.2) (SS.n y7) (y8.2.1))) (SS.ok (SS.mk (y8.2.2) (SS.n y7) (y8.2.1))))) fun y9 => .need [FnOK Tryz.prog 92 [.ptr 0 0, .int .u8 58] [sdI t (↑(pos' t (SS.s (SS.mk (y8.2.2) (SS.n y7)
 (y8.2.1)))) : Int) (SS.n (SS.mk (y8.2.2) (SS.n y7) (y8.2.1))) (SS.ok (SS.mk (y8.2.2) (SS.n y7) (y8.2.1)))] (Ret.mk (.tup []) [sdI t (↑(pos' t (SS.s y9)) : Int) (SS.n y9) (SS.ok y9)] [0])] (.bind (val (SS.mk (List.drop (Int.toNat (↑(pos' t
 (SS.s y9)) : Int)) t) (SS.n y9) (SS.ok y9))) fun y10 => .need [FnOK Tryz.prog 45 [.ptr 0 0, .int .i64 (IntKind.wrap IntKind.i64 (d - 1))] [sdI t (↑(pos' t (SS.s y9)) : Int) (SS.n y9) (SS.ok y9)] (Ret.mk (.agg (vwJ y10.1)) [sdI t (↑(pos' t
 (SS.s y10.2)) : Int) (SS.n y10.2) (SS.ok y10.2)] [0])] (.bind (kPos y8.1 (decL encStr (encs encStr K)), jOf (J.kind y10.1) (J.n y10.1) (J.t y10.1) (encs encStr (J.keys y10.1)) (encs encJ (J.items y10.1))) fun y11 => .need [St.mk (mkTm 99
 [(0, .ptr 0 0), (1, .int .i64 d), (4, .ptr 1 0), (5, .ptr 2 0), (6, .str y8.1), (7, .ptr 3 0), (8, .int .i64 0)]) [sdI t (↑(pos' t (SS.s y10.2)) : Int) (SS.n y10.2) (SS.ok y10.2), zJ, nO5 K L, some (vwJ y10.1, 25)] [0] = St.mk (mkTm 99 [(0,
 .ptr 0 0), (1, .int .i64 d), (4, .ptr 1 0), (5, .ptr 2 0), (6, .str y8.1), (7, .ptr 3 0), (8, .int .i64 0)]) [sdI t (↑(pos' t (SS.s y10.2)) : Int) (SS.n y10.2) (SS.ok y10.2), zJ, nO5 (decL encStr (encs encStr K)) (decL encJ (encs encJ L)),
 some (vwJ y11.2, 25)] [0], SoundC Tryz.prog 1 (blk Tryz.prog fSObj 2) (St.mk (mkTm 99 [(0, .ptr 0 0), (1, .int .i64 d), (4, .ptr 1 0), (5, .ptr 2 0), (6, .str y8.1), (7, .ptr 3 0), (8, .int .i64 0)]) [sdI t (↑(pos' t (SS.s y10.2)) : Int)
 (SS.n y10.2) (SS.ok y10.2), zJ, nO5 (decL encStr (encs encStr K)) (decL encJ (encs encJ L)), some (vwJ y11.2, 25)] [0]) (Ex.exit 2) (St.mk (mkTm 99 [(0, .ptr 0 0), (1, .int .i64 d), (4, .ptr 1 0), (5, .ptr 2 0), (6, .str y8.1), (7, .ptr 3
 0), (8, .int .i64 (↑y11.1 : Int))]) [sdI t (↑(pos' t (SS.s y10.2)) : Int) (SS.n y10.2) (SS.ok y10.2), zJ, nO5 (decL encStr (encs encStr K)) (decL encJ (encs encJ L)), some (vwJ y11.2, 25)] [0])] (bif decide ((↑y11.1 : Int) < (↑(List.length
 (decL encStr (encs encStr K))) : Int)) then .need [(0 : Int) ≤ (↑y11.1 : Int) ∧ (↑y11.1 : Int) < (↑(List.length (decL encStr (encs encStr K))) : Int), List.take 1 (List.drop (Int.toNat (↑y11.1 : Int) * 1) (encs encStr (decL encStr (encs
 encStr K)))) = [.str (List.getD (decL encStr (encs encStr (decL encStr (encs encStr K)))) (Int.toNat (↑y11.1 : Int)) [])]] (bif List.getD (decL encStr (encs encStr (decL encStr (encs encStr K)))) (Int.toNat (↑y11.1 : Int)) [] == y8.1 then
 .need [(0 : Int) ≤ (↑y11.1 : Int) ∧ (↑y11.1 : Int) ≤ (↑(List.length (decL encStr (encs encStr K))) : Int)] (.need [List.length (List.drop 0 (List.take (Int.toNat (↑y11.1 : Int) * 1) (encs encStr (decL encStr (encs encStr K))))) = (Int.toNat
 (↑y11.1 : Int) - 0) * 1, List.all (List.drop 0 (List.take (Int.toNat (↑y11.1 : Int) * 1) (encs encStr (decL encStr (encs encStr K))))) V.one = true, 0 = 0, 0 = 0, 0 + (Int.toNat (↑y11.1 : Int) - 0) ≤ 9223372036854775807, (0 + (Int.toNat
 (↑y11.1 : Int) - 0)) * 16 ≤ 140737488355328] (.need [0 = 0, List.length (List.drop 0 (List.take (Int.toNat (↑y11.1 : Int) * 1) (encs encStr (decL encStr (encs encStr K))))) = (0 + (Int.toNat (↑y11.1 : Int) - 0)) * 1, 0 + (Int.toNat (↑y11.1
 : Int) - 0) + 1 ≤ 9223372036854775807, (0 + (Int.toNat (↑y11.1 : Int) - 0) + 1) * 16 ≤ 140737488355328] (.need [(0 : Int) ≤ (↑y11.1 : Int) ∧ (↑y11.1 : Int) ≤ (↑(List.length (decL encStr (encs encStr K))) : Int)] (.need [List.length
 (List.drop (Int.toNat (↑y11.1 : Int) * 1) (List.take (List.length (decL encStr (encs encStr K)) * 1) (encs encStr (decL encStr (encs encStr K))))) = (List.length (decL encStr (encs encStr K)) - Int.toNat (↑y11.1 : Int)) * 1, List.all
 (List.drop (Int.toNat (↑y11.1 : Int) * 1) (List.take (List.length (decL encStr (encs encStr K)) * 1) (encs encStr (decL encStr (encs encStr K))))) V.one = true, 0 = 0, List.length (List.drop 0 (List.take (Int.toNat (↑y11.1 : Int) * 1) (encs
 encStr (decL encStr (encs encStr K)))) ++ [.str y8.1]) = (0 + (Int.toNat (↑y11.1 : Int) - 0) + 1) * 1, 0 + (Int.toNat (↑y11.1 : Int) - 0) + 1 + (List.length (decL encStr (encs encStr K)) - Int.toNat (↑y11.1 : Int)) ≤ 9223372036854775807, (0
 + (Int.toNat (↑y11.1 : Int) - 0) + 1 + (List.length (decL encStr (encs encStr K)) - Int.toNat (↑y11.1 : Int))) * 16 ≤ 140737488355328] (.need [(0 : Int) ≤ (↑y11.1 : Int) ∧ (↑y11.1 : Int) ≤ (↑(List.length (decL encJ (encs encJ L))) : Int)]
 (.need [List.length (List.drop 0 (List.take (Int.toNat (↑y11.1 : Int) * 5) (encs encJ (decL encJ (encs encJ L))))) = (Int.toNat (↑y11.1 : Int) - 0) * 5, List.all (List.drop 0 (List.take (Int.toNat (↑y11.1 : Int) * 5) (encs encJ (decL encJ
 (encs encJ L))))) V.one = true, 0 = 0, 0 = 0, 0 + (Int.toNat (↑y11.1 : Int) - 0) ≤ 9223372036854775807, (0 + (Int.toNat (↑y11.1 : Int) - 0)) * 80 ≤ 140737488355328] (.need [0 = 0, List.length (List.drop 0 (List.take (Int.toNat (↑y11.1 :
 Int) * 5) (encs encJ (decL encJ (encs encJ L))))) = (0 + (Int.toNat (↑y11.1 : Int) - 0)) * 5, 0 + (Int.toNat (↑y11.1 : Int) - 0) + 1 ≤ 9223372036854775807, (0 + (Int.toNat (↑y11.1 : Int) - 0) + 1) * 80 ≤ 140737488355328] (.need [(0 : Int) ≤
 (↑y11.1 : Int) ∧ (↑y11.1 : Int) ≤ (↑(List.length (decL encJ (encs encJ L))) : Int)] (.need [List.length (List.drop (Int.toNat (↑y11.1 : Int) * 5) (List.take (List.length (decL encJ (encs encJ L)) * 5) (encs encJ (decL encJ (encs encJ L)))))
 = (List.length (decL encJ (encs encJ L)) - Int.toNat (↑y11.1 : Int)) * 5, List.all (List.drop (Int.toNat (↑y11.1 : Int) * 5) (List.take (List.length (decL encJ (encs encJ L)) * 5) (encs encJ (decL encJ (encs encJ L))))) V.one = true, 0 = 0,
 List.length (List.drop 0 (List.take (Int.toNat (↑y11.1 : Int) * 5) (encs encJ (decL encJ (encs encJ L)))) ++ [.int .i64 (J.kind y11.2), .int .i64 (J.n y11.2), .str (J.t y11.2), .dsl (List.length (J.keys y11.2)) false (encs encStr (J.keys
 y11.2)), .dsl (List.length (J.items y11.2)) false (encs encJ (J.items y11.2))]) = (0 + (Int.toNat (↑y11.1 : Int) - 0) + 1) * 5, 0 + (Int.toNat (↑y11.1 : Int) - 0) + 1 + (List.length (decL encJ (encs encJ L)) - Int.toNat (↑y11.1 : Int)) ≤
 9223372036854775807, (0 + (Int.toNat (↑y11.1 : Int) - 0) + 1 + (List.length (decL encJ (encs encJ L)) - Int.toNat (↑y11.1 : Int))) * 80 ≤ 140737488355328] (.done (Ex.normal, St.mk (mkTm 99 [(0, .ptr 0 0), (1, .int .i64 d), (4, .ptr 1 0),
 (5, .ptr 2 0)]) [sdI t (↑(pos' t (SS.s y10.2)) : Int) (SS.n y10.2) false, zJ, some ([.int .i64 5, .int .i64 0, .str [], .dsl (0 + (Int.toNat (↑y11.1 : Int) - 0) + 1 + (List.length (decL encStr (encs encStr K)) - Int.toNat (↑y11.1 : Int)))
 false (List.drop 0 (List.take (Int.toNat (↑y11.1 : Int) * 1) (encs encStr (decL encStr (encs encStr K)))) ++ .str y8.1 :: List.drop (Int.toNat (↑y11.1 : Int) * 1) (List.take (List.length (decL encStr (encs encStr K)) * 1) (encs encStr (decL
 encStr (encs encStr K))))), .dsl (0 + (Int.toNat (↑y11.1 : Int) - 0) + 1 + (List.length (decL encJ (encs encJ L)) - Int.toNat (↑y11.1 : Int))) false (List.drop 0 (List.take (Int.toNat (↑y11.1 : Int) * 5) (encs encJ (decL encJ (encs encJ
 L)))) ++ .int .i64 (J.kind y11.2) :: .int .i64 (J.n y11.2) :: .str (J.t y11.2) :: .dsl (List.length (J.keys y11.2)) false (encs encStr (J.keys y11.2)) :: .dsl (List.length (J.items y11.2)) false (encs encJ (J.items y11.2)) :: List.drop
 (Int.toNat (↑y11.1 : Int) * 5) (List.take (List.length (decL encJ (encs encJ L)) * 5) (encs encJ (decL encJ (encs encJ L)))))], 25)] [0]))))))))))) else .need [(0 : Int) ≤ (↑y11.1 : Int) ∧ (↑y11.1 : Int) ≤ (↑(List.length (decL encStr (encs
 encStr K))) : Int)] (.need [List.length (List.drop 0 (List.take (Int.toNat (↑y11.1 : Int) * 1) (encs encStr (decL encStr (encs encStr K))))) = (Int.toNat (↑y11.1 : Int) - 0) * 1, List.all (List.drop 0 (List.take (Int.toNat (↑y11.1 : Int) *
 1) (encs encStr (decL encStr (encs encStr K))))) V.one = true, 0 = 0, 0 = 0, 0 + (Int.toNat (↑y11.1 : Int) - 0) ≤ 9223372036854775807, (0 + (Int.toNat (↑y11.1 : Int) - 0)) * 16 ≤ 140737488355328] (.need [0 = 0, List.length (List.drop 0
 (List.take (Int.toNat (↑y11.1 : Int) * 1) (encs encStr (decL encStr (encs encStr K))))) = (0 + (Int.toNat (↑y11.1 : Int) - 0)) * 1, 0 + (Int.toNat (↑y11.1 : Int) - 0) + 1 ≤ 9223372036854775807, (0 + (Int.toNat (↑y11.1 : Int) - 0) + 1) * 16
 ≤ 140737488355328] (.need [(0 : Int) ≤ (↑y11.1 : Int) ∧ (↑y11.1 : Int) ≤ (↑(List.length (decL encStr (encs encStr K))) : Int)] (.need [List.length (List.drop (Int.toNat (↑y11.1 : Int) * 1) (List.take (List.length (decL encStr (encs encStr
 K)) * 1) (encs encStr (decL encStr (encs encStr K))))) = (List.length (decL encStr (encs encStr K)) - Int.toNat (↑y11.1 : Int)) * 1, List.all (List.drop (Int.toNat (↑y11.1 : Int) * 1) (List.take (List.length (decL encStr (encs encStr K)) *
 1) (encs encStr (decL encStr (encs encStr K))))) V.one = true, 0 = 0, List.length (List.drop 0 (List.take (Int.toNat (↑y11.1 : Int) * 1) (encs encStr (decL encStr (encs encStr K)))) ++ [.str y8.1]) = (0 + (Int.toNat (↑y11.1 : Int) - 0) + 1)
 * 1, 0 + (Int.toNat (↑y11.1 : Int) - 0) + 1 + (List.length (decL encStr (encs encStr K)) - Int.toNat (↑y11.1 : Int)) ≤ 9223372036854775807, (0 + (Int.toNat (↑y11.1 : Int) - 0) + 1 + (List.length (decL encStr (encs encStr K)) - Int.toNat
 (↑y11.1 : Int))) * 16 ≤ 140737488355328] (.need [(0 : Int) ≤ (↑y11.1 : Int) ∧ (↑y11.1 : Int) ≤ (↑(List.length (decL encJ (encs encJ L))) : Int)] (.need [List.length (List.drop 0 (List.take (Int.toNat (↑y11.1 : Int) * 5) (encs encJ (decL
 encJ (encs encJ L))))) = (Int.toNat (↑y11.1 : Int) - 0) * 5, List.all (List.drop 0 (List.take (Int.toNat (↑y11.1 : Int) * 5) (encs encJ (decL encJ (encs encJ L))))) V.one = true, 0 = 0, 0 = 0, 0 + (Int.toNat (↑y11.1 : Int) - 0) ≤
 9223372036854775807, (0 + (Int.toNat (↑y11.1 : Int) - 0)) * 80 ≤ 140737488355328] (.need [0 = 0, List.length (List.drop 0 (List.take (Int.toNat (↑y11.1 : Int) * 5) (encs encJ (decL encJ (encs encJ L))))) = (0 + (Int.toNat (↑y11.1 : Int) -
 0)) * 5, 0 + (Int.toNat (↑y11.1 : Int) - 0) + 1 ≤ 9223372036854775807, (0 + (Int.toNat (↑y11.1 : Int) - 0) + 1) * 80 ≤ 140737488355328] (.need [(0 : Int) ≤ (↑y11.1 : Int) ∧ (↑y11.1 : Int) ≤ (↑(List.length (decL encJ (encs encJ L))) : Int)]
 (.need [List.length (List.drop (Int.toNat (↑y11.1 : Int) * 5) (List.take (List.length (decL encJ (encs encJ L)) * 5) (encs encJ (decL encJ (encs encJ L))))) = (List.length (decL encJ (encs encJ L)) - Int.toNat (↑y11.1 : Int)) * 5, List.all
 (List.drop (Int.toNat (↑y11.1 : Int) * 5) (List.take (List.length (decL encJ (encs encJ L)) * 5) (encs encJ (decL encJ (encs encJ L))))) V.one = true, 0 = 0, List.length (List.drop 0 (List.take (Int.toNat (↑y11.1 : Int) * 5) (encs encJ
 (decL encJ (encs encJ L)))) ++ [.int .i64 (J.kind y11.2), .int .i64 (J.n y11.2), .str (J.t y11.2), .dsl (List.length (J.keys y11.2)) false (encs encStr (J.keys y11.2)), .dsl (List.length (J.items y11.2)) false (encs encJ (J.items y11.2))])
 = (0 + (Int.toNat (↑y11.1 : Int) - 0) + 1) * 5, 0 + (Int.toNat (↑y11.1 : Int) - 0) + 1 + (List.length (decL encJ (encs encJ L)) - Int.toNat (↑y11.1 : Int)) ≤ 9223372036854775807, (0 + (Int.toNat (↑y11.1 : Int) - 0) + 1 + (List.length (decL
 encJ (encs encJ L)) - Int.toNat (↑y11.1 : Int))) * 80 ≤ 140737488355328] (.done (Ex.normal, St.mk (mkTm 99 [(0, .ptr 0 0), (1, .int .i64 d), (4, .ptr 1 0), (5, .ptr 2 0)]) [sdI t (↑(pos' t (SS.s y10.2)) : Int) (SS.n y10.2) (SS.ok y10.2),
 zJ, some ([.int .i64 5, .int .i64 0, .str [], .dsl (0 + (Int.toNat (↑y11.1 : Int) - 0) + 1 + (List.length (decL encStr (encs encStr K)) - Int.toNat (↑y11.1 : Int))) false (List.drop 0 (List.take (Int.toNat (↑y11.1 : Int) * 1) (encs encStr
 (decL encStr (encs encStr K)))) ++ .str y8.1 :: List.drop (Int.toNat (↑y11.1 : Int) * 1) (List.take (List.length (decL encStr (encs encStr K)) * 1) (encs encStr (decL encStr (encs encStr K))))), .dsl (0 + (Int.toNat (↑y11.1 : Int) - 0) + 1
 + (List.length (decL encJ (encs encJ L)) - Int.toNat (↑y11.1 : Int))) false (List.drop 0 (List.take (Int.toNat (↑y11.1 : Int) * 5) (encs encJ (decL encJ (encs encJ L)))) ++ .int .i64 (J.kind y11.2) :: .int .i64 (J.n y11.2) :: .str (J.t
 y11.2) :: .dsl (List.length (J.keys y11.2)) false (encs encStr (J.keys y11.2)) :: .dsl (List.length (J.items y11.2)) false (encs encJ (J.items y11.2)) :: List.drop (Int.toNat (↑y11.1 : Int) * 5) (List.take (List.length (decL encJ (encs encJ
 L)) * 5) (encs encJ (decL encJ (encs encJ L)))))], 25)] [0])))))))))))) else .need [(0 : Int) ≤ (↑y11.1 : Int) ∧ (↑y11.1 : Int) ≤ (↑(List.length (decL encStr (encs encStr K))) : Int)] (.need [List.length (List.drop 0 (List.take (Int.toNat
 (↑y11.1 : Int) * 1) (encs encStr (decL encStr (encs encStr K))))) = (Int.toNat (↑y11.1 : Int) - 0) * 1, List.all (List.drop 0 (List.take (Int.toNat (↑y11.1 : Int) * 1) (encs encStr (decL encStr (encs encStr K))))) V.one = true, 0 = 0, 0 =
 0, 0 + (Int.toNat (↑y11.1 : Int) - 0) ≤ 9223372036854775807, (0 + (Int.toNat (↑y11.1 : Int) - 0)) * 16 ≤ 140737488355328] (.need [0 = 0, List.length (List.drop 0 (List.take (Int.toNat (↑y11.1 : Int) * 1) (encs encStr (decL encStr (encs
 encStr K))))) = (0 + (Int.toNat (↑y11.1 : Int) - 0)) * 1, 0 + (Int.toNat (↑y11.1 : Int) - 0) + 1 ≤ 9223372036854775807, (0 + (Int.toNat (↑y11.1 : Int) - 0) + 1) * 16 ≤ 140737488355328] (.need [(0 : Int) ≤ (↑y11.1 : Int) ∧ (↑y11.1 : Int) ≤
 (↑(List.length (decL encStr (encs encStr K))) : Int)] (.need [List.length (List.drop (Int.toNat (↑y11.1 : Int) * 1) (List.take (List.length (decL encStr (encs encStr K)) * 1) (encs encStr (decL encStr (encs encStr K))))) = (List.length
 (decL encStr (encs encStr K)) - Int.toNat (↑y11.1 : Int)) * 1, List.all (List.drop (Int.toNat (↑y11.1 : Int) * 1) (List.take (List.length (decL encStr (encs encStr K)) * 1) (encs encStr (decL encStr (encs encStr K))))) V.one = true, 0 = 0,
 List.length (List.drop 0 (List.take (Int.toNat (↑y11.1 : Int) * 1) (encs encStr (decL encStr (encs encStr K)))) ++ [.str y8.1]) = (0 + (Int.toNat (↑y11.1 : Int) - 0) + 1) * 1, 0 + (Int.toNat (↑y11.1 : Int) - 0) + 1 + (List.length (decL
 encStr (encs encStr K)) - Int.toNat (↑y11.1 : Int)) ≤ 9223372036854775807, (0 + (Int.toNat (↑y11.1 : Int) - 0) + 1 + (List.length (decL encStr (encs encStr K)) - Int.toNat (↑y11.1 : Int))) * 16 ≤ 140737488355328] (.need [(0 : Int) ≤ (↑y11.1
 : Int) ∧ (↑y11.1 : Int) ≤ (↑(List.length (decL encJ (encs encJ L))) : Int)] (.need [List.length (List.drop 0 (List.take (Int.toNat (↑y11.1 : Int) * 5) (encs encJ (decL encJ (encs encJ L))))) = (Int.toNat (↑y11.1 : Int) - 0) * 5, List.all
 (List.drop 0 (List.take (Int.toNat (↑y11.1 : Int) * 5) (encs encJ (decL encJ (encs encJ L))))) V.one = true, 0 = 0, 0 = 0, 0 + (Int.toNat (↑y11.1 : Int) - 0) ≤ 9223372036854775807, (0 + (Int.toNat (↑y11.1 : Int) - 0)) * 80 ≤
 140737488355328] (.need [0 = 0, List.length (List.drop 0 (List.take (Int.toNat (↑y11.1 : Int) * 5) (encs encJ (decL encJ (encs encJ L))))) = (0 + (Int.toNat (↑y11.1 : Int) - 0)) * 5, 0 + (Int.toNat (↑y11.1 : Int) - 0) + 1 ≤
 9223372036854775807, (0 + (Int.toNat (↑y11.1 : Int) - 0) + 1) * 80 ≤ 140737488355328] (.need [(0 : Int) ≤ (↑y11.1 : Int) ∧ (↑y11.1 : Int) ≤ (↑(List.length (decL encJ (encs encJ L))) : Int)] (.need [List.length (List.drop (Int.toNat (↑y11.1
 : Int) * 5) (List.take (List.length (decL encJ (encs encJ L)) * 5) (encs encJ (decL encJ (encs encJ L))))) = (List.length (decL encJ (encs encJ L)) - Int.toNat (↑y11.1 : Int)) * 5, List.all (List.drop (Int.toNat (↑y11.1 : Int) * 5)
 (List.take (List.length (decL encJ (encs encJ L)) * 5) (encs encJ (decL encJ (encs encJ L))))) V.one = true, 0 = 0, List.length (List.drop 0 (List.take (Int.toNat (↑y11.1 : Int) * 5) (encs encJ (decL encJ (encs encJ L)))) ++ [.int .i64
 (J.kind y11.2), .int .i64 (J.n y11.2), .str (J.t y11.2), .dsl (List.length (J.keys y11.2)) false (encs encStr (J.keys y11.2)), .dsl (List.length (J.items y11.2)) false (encs encJ (J.items y11.2))]) = (0 + (Int.toNat (↑y11.1 : Int) - 0) + 1)
 * 5, 0 + (Int.toNat (↑y11.1 : Int) - 0) + 1 + (List.length (decL encJ (encs encJ L)) - Int.toNat (↑y11.1 : Int)) ≤ 9223372036854775807, (0 + (Int.toNat (↑y11.1 : Int) - 0) + 1 + (List.length (decL encJ (encs encJ L)) - Int.toNat (↑y11.1 :
 Int))) * 80 ≤ 140737488355328] (.done (Ex.normal, St.mk (mkTm 99 [(0, .ptr 0 0), (1, .int .i64 d), (4, .ptr 1 0), (5, .ptr 2 0)]) [sdI t (↑(pos' t (SS.s y10.2)) : Int) (SS.n y10.2) (SS.ok y10.2), zJ, some ([.int .i64 5, .int .i64 0, .str
 [], .dsl (0 + (Int.toNat (↑y11.1 : Int) - 0) + 1 + (List.length (decL encStr (encs encStr K)) - Int.toNat (↑y11.1 : Int))) false (List.drop 0 (List.take (Int.toNat (↑y11.1 : Int) * 1) (encs encStr (decL encStr (encs encStr K)))) ++ .str
 y8.1 :: List.drop (Int.toNat (↑y11.1 : Int) * 1) (List.take (List.length (decL encStr (encs encStr K)) * 1) (encs encStr (decL encStr (encs encStr K))))), .dsl (0 + (Int.toNat (↑y11.1 : Int) - 0) + 1 + (List.length (decL encJ (encs encJ L))
 - Int.toNat (↑y11.1 : Int))) false (List.drop 0 (List.take (Int.toNat (↑y11.1 : Int) * 5) (encs encJ (decL encJ (encs encJ L)))) ++ .int .i64 (J.kind y11.2) :: .int .i64 (J.n y11.2) :: .str (J.t y11.2) :: .dsl (List.length (J.keys y11.2))
 false (encs encStr (J.keys y11.2)) :: .dsl (List.length (J.items y11.2)) false (encs encJ (J.items y11.2)) :: List.drop (Int.toNat (↑y11.1 : Int) * 5) (List.take (List.length (decL encJ (encs encJ L)) * 5) (encs encJ (decL encJ (encs encJ
 L)))))], 25)] [0])))))))))))))))) else .done (Ex.exit 0, St.mk (mkTm 99 [(0, .ptr 0 0), (1, .int .i64 d), (4, .ptr 1 0), (5, .ptr 2 0)]) [sdI t (↑(pos' t (SS.s y0.2)) : Int) (SS.n y0.2) (SS.ok y0.2), zJ, nO5 K L] [0])) else .done (Ex.exit
 0, St.mk (mkTm 99 [(0, .ptr 0 0), (1, .int .i64 d), (4, .ptr 1 0), (5, .ptr 2 0)]) [sdI t i n ok, zJ, nO5 K L] [0]) : T _) := by kernel_rfl
theorem kp_loop (t : List UInt8) (i n : Int) (ok : Bool) (d : Int) (K : List (List UInt8)) (L : List J) (key : List UInt8) (v : J) (hK : K.length ≤ 1000000) : ∀ (m k : Nat), k + m = K.length →
  LoopTo Tryz.prog 1 (lp Tryz.prog fSObj 2) (stKp t i n ok d K L key v k) (.exit 2) (stKp t i n ok d K L key v (k + kPos key (K.drop k) : Nat))
 | 0, k, h => by
  obtain rfl : k = K.length := h
  refine loopT (E := ESO1 (fun x => (J.zero, x))) follows named (kpT t i n ok d K L key v _) ?_
  simp only [WP_cond, T.WP, All, decide_eq_true_eq, decide_eq_false_iff_not, and_true]
  refine ⟨fun h => by omega, fun _ => ⟨rfl, ?_⟩⟩
  rw [List.drop_length]; rfl
 | m + 1, k, h => by
  refine loopT (E := ESO1 (fun x => (J.zero, x))) follows named (kpT t i n ok d K L key v k) ?_
  have hat := layStr.at K [] k 1 (by omega) rfl
  have ed : K.drop k = K.getD k [] :: K.drop (k + 1) := by rw [List.getD_eq_getElem?_getD, List.getElem?_eq_getElem (by omega)]; exact List.drop_eq_getElem_cons (by omega)
  have ih := kp_loop t i n ok d K L key v hK m (k + 1) (by omega)
  simp only [WP_cond, T.WP, All, decide_eq_true_eq, decide_eq_false_iff_not, and_true, Int.toNat_natCast, layStr.decL, wrap_succ (show k < 9223372036854775807 by omega)]
  rw [ed, kPos]
  refine ⟨fun _ => ⟨⟨by omega, hat⟩, fun hl => ?_, fun hl => ?_⟩, fun h => by omega⟩
  ·rw [hl, cond_true, show k + (kPos key (K.drop (k + 1)) + 1) = k + 1 + kPos key (K.drop (k + 1)) by omega]
   exact ih
  ·rw [hl, cond_false]
   exact ⟨rfl, rfl⟩
theorem kPos_le (key : List UInt8) : ∀ K : List (List UInt8), kPos key K ≤ K.length
 | [] => Nat.le_refl _
 | k :: K => by
  rw [kPos]
  have := kPos_le key K
  cases Op.bytesLess k key
  ·simp
  ·simp; omega
theorem stxR_suf : ∀ (n : Nat) (s W : List UInt8), s.length ≤ n → (stxR s W).2.2 <:+ s
 | n, [], W, h => by simp [stxR]
 | 0, c :: s, W, h => by simp at h
 | n + 1, c :: s, W, h => by
  simp only [List.length_cons, Nat.add_le_add_iff_right] at h
  by_cases hw : 200 < W.length
  ·rw [stxR_long c s hw]; exact List.suffix_refl _
  by_cases h1 : c = 34
  ·subst h1; rw [stxR_q s hw]; exact List.suffix_cons _ _
  by_cases h2 : c = 92
  ·subst h2
   cases s with
   | nil => rw [stxR_e1 hw]; exact List.nil_suffix
   | cons a r =>
    rw [stxR_e2 a r hw]
    simp only [List.length_cons] at h
    split
    ·exact (stxR_suf n r _ (by omega)).trans ((List.suffix_cons _ _).trans (List.suffix_cons _ _))
    ·exact List.suffix_cons _ _
  ·rw [stxR_o s hw h1 h2]
   exact (stxR_suf n s _ h).trans (List.suffix_cons _ _)
theorem stxE_suf (ok : Bool) (s : List UInt8) : (stxE ok s).2.2 <:+ s := by
 unfold stxE
 cases ok with
 | false => exact List.suffix_refl _
 | true => exact stxR_suf _ s [] (Nat.le_refl _)
theorem encs_app' {α : Type} (enc : α → List V) : ∀ a b : List α, encs enc (a ++ b) = encs enc a ++ encs enc b
 | [], b => rfl
 | x :: a, b => by rw [List.cons_append, encs_cons, encs_cons, encs_app' enc a b, List.append_assoc]
theorem so_state (t : List UInt8) (i n : Int) (ok : Bool) (d : Int) (K : List (List UInt8)) (L : List J) (key : List UInt8) (v : J) (hKL : K.length = L.length) :
  stSO t i n ok d (kIns key v ⟨K, L⟩).ks (kIns key v ⟨K, L⟩).its = ⟨mkTm 99 [(0, .ptr 0 0), (1, .int .i64 d), (4, .ptr 1 0), (5, .ptr 2 0)], [sdI t i n ok, zJ, some ([.int .i64 5, .int .i64 0, .str [], .dsl (kPos key K + 1 + (K.length - kPos key K)) false (encs encStr (K.take (kPos key K)) ++ .str key :: encs encStr (K.drop (kPos key K))), .dsl (kPos key K + 1 + (L.length - kPos key K)) false (encs encJ (L.take (kPos key K)) ++ (vwJ v ++ encs encJ (L.drop (kPos key K))))], tJ)], [0]⟩ := by
 have hp := kPos_le key K
 have l1 : (K.take (kPos key K) ++ key :: K.drop (kPos key K)).length = kPos key K + 1 + (K.length - kPos key K) := by simp; omega
 have l2 : (L.take (kPos key K) ++ v :: L.drop (kPos key K)).length = kPos key K + 1 + (L.length - kPos key K) := by simp; omega
 unfold stSO nO5 kIns
 simp only [l1, l2, encs_app', encs_cons, encJ_vw]
 rfl
theorem so_step {t : List UInt8} {d : Int} {val : SS → J × SS} (ht : t.length ≤ 1000000) (hd : 1 ≤ d ∧ d ≤ 1000) (hV : SValOK t (d - 1) val) (x : SS) (hI : SIn t x) (hok : x.ok = true) (K : List (List UInt8)) (L : List J) (hKL : K.length = L.length) (hL : L.length ≤ 1000000) (hk : (x.tk 125).1 = false) {y : SS × KL} (hy : y = sField val (bif L.isEmpty then (x.tk 125).2 else (x.tk 125).2.nd 44) ⟨K, L⟩) {fin : St}
  (h : LoopTo Tryz.prog 1 (lp Tryz.prog fSObj 0) (stSO t (pos' t y.1.s : Nat) y.1.n y.1.ok d y.2.ks y.2.its) (.exit 0) fin) :
  LoopTo Tryz.prog 1 (lp Tryz.prog fSObj 0) (stSO t (pos' t x.s : Nat) x.n x.ok d K L) (.exit 0) fin := by
 obtain ⟨s, m, ok⟩ := x
 simp only at hok
 subst hok
 have hs := hI.suf
 have c1 := stk_run 125 (by omega) ⟨s, m, true⟩ hs
 have s1 := (stk_suf 125 ⟨s, m, true⟩).trans hs
 have hx1 : ((SS.mk s m true).tk 125).2.n = m := rfl
 have hw : IntKind.i64.wrap (d - 1) = d - 1 := wrap_id (by omega)
 refine loopT (E := ESP val) follows named (soT val t (pos' t s : Nat) m true d K L) ?_
 simp only [WP_cond, T.WP, All, decide_eq_true_eq, decide_eq_false_iff_not, and_true, beq_iff_eq, beq_eq_false_iff_ne, ne_eq, layStr.decL, layJ.decL, hw]
 refine ⟨fun _ => ?_, fun h => by simp at h⟩
 rw [show SS.mk (t.drop ((pos' t s : Nat) : Int).toNat) m true = ⟨s, m, true⟩ from ss_eta (x := ⟨s, m, true⟩) hs]
 rintro y rfl
 refine ⟨c1, fun _ => ?_, fun h => by rw [hk] at h; simp at h⟩
 generalize ((SS.mk s m true).tk 125).2 = x1 at *
 refine ⟨fun hL0 => ?_, fun hL0 => ?_⟩
 ·have hem : L.isEmpty = false := by cases L with
   | nil => simp at hL0
   | cons a L => rfl
  rw [hem] at hy
  simp only [cond_false] at hy
  rw [ss_eta s1]
  rintro z0 rfl
  refine ⟨snd_run 44 (by omega) x1 s1, ?_⟩
  have s2 := (snd_suf 44 x1).trans s1
  have hn2 : (x1.nd 44).n = m := hx1
  have s3 := (snd_suf 34 (x1.nd 44)).trans s2
  rw [ss_eta s2]
  rintro z1 rfl
  refine ⟨snd_run 34 (by omega) (x1.nd 44) s2, ?_⟩
  rw [show t.drop ((pos' t ((x1.nd 44).nd 34).s : Nat) : Int).toNat = ((x1.nd 44).nd 34).s from by rw [Int.toNat_natCast, drop_pos s3]]
  rintro z2 rfl
  refine ⟨stext_ok (by omega) s3 _ _, ?_⟩
  have s4 : (stxE ((x1.nd 44).nd 34).ok ((x1.nd 44).nd 34).s).2.2 <:+ t := (stxE_suf _ _).trans s3
  have hf : sField val (x1.nd 44) ⟨K, L⟩ = (⟨(val ((SS.mk (stxE ((x1.nd 44).nd 34).ok ((x1.nd 44).nd 34).s).2.2 ((x1.nd 44).nd 34).n (stxE ((x1.nd 44).nd 34).ok ((x1.nd 44).nd 34).s).2.1).nd 58)).2.s, (val ((SS.mk (stxE ((x1.nd 44).nd 34).ok ((x1.nd 44).nd 34).s).2.2 ((x1.nd 44).nd 34).n (stxE ((x1.nd 44).nd 34).ok ((x1.nd 44).nd 34).s).2.1).nd 58)).2.n, (val ((SS.mk (stxE ((x1.nd 44).nd 34).ok ((x1.nd 44).nd 34).s).2.2 ((x1.nd 44).nd 34).n (stxE ((x1.nd 44).nd 34).ok ((x1.nd 44).nd 34).s).2.1).nd 58)).2.ok && !kDup (stxE ((x1.nd 44).nd 34).ok ((x1.nd 44).nd 34).s).1 K⟩, kIns (stxE ((x1.nd 44).nd 34).ok ((x1.nd 44).nd 34).s).1 (val ((SS.mk (stxE ((x1.nd 44).nd 34).ok ((x1.nd 44).nd 34).s).2.2 ((x1.nd 44).nd 34).n (stxE ((x1.nd 44).nd 34).ok ((x1.nd 44).nd 34).s).2.1).nd 58)).1 ⟨K, L⟩) := rfl
  rw [ss_eta (x := ⟨(stxE ((x1.nd 44).nd 34).ok ((x1.nd 44).nd 34).s).2.2, ((x1.nd 44).nd 34).n, (stxE ((x1.nd 44).nd 34).ok ((x1.nd 44).nd 34).s).2.1⟩) s4]
  have c58 := snd_run 58 (by omega) ⟨(stxE ((x1.nd 44).nd 34).ok ((x1.nd 44).nd 34).s).2.2, ((x1.nd 44).nd 34).n, (stxE ((x1.nd 44).nd 34).ok ((x1.nd 44).nd 34).s).2.1⟩ s4
  have s5 := (snd_suf 58 ⟨(stxE ((x1.nd 44).nd 34).ok ((x1.nd 44).nd 34).s).2.2, ((x1.nd 44).nd 34).n, (stxE ((x1.nd 44).nd 34).ok ((x1.nd 44).nd 34).s).2.1⟩).trans s4
  have hn5 : ((SS.mk (stxE ((x1.nd 44).nd 34).ok ((x1.nd 44).nd 34).s).2.2 ((x1.nd 44).nd 34).n (stxE ((x1.nd 44).nd 34).ok ((x1.nd 44).nd 34).s).2.1).nd 58).n = (x1.nd 44).n := rfl
  rintro z3 rfl
  refine ⟨c58, ?_⟩
  rw [ss_eta s5]
  rw [hf] at hy
  have hI5 : SIn t ((SS.mk (stxE ((x1.nd 44).nd 34).ok ((x1.nd 44).nd 34).s).2.2 ((x1.nd 44).nd 34).n (stxE ((x1.nd 44).nd 34).ok ((x1.nd 44).nd 34).s).2.1).nd 58) := ⟨s5, by rw [hn5, hn2]; exact hI.lo, by rw [hn5, hn2]; exact hI.hi⟩
  rintro z4 rfl
  refine ⟨hV.run _ hI5, ?_⟩
  generalize val ((SS.mk (stxE ((x1.nd 44).nd 34).ok ((x1.nd 44).nd 34).s).2.2 ((x1.nd 44).nd 34).n (stxE ((x1.nd 44).nd 34).ok ((x1.nd 44).nd 34).s).2.1).nd 58) = v at *
  generalize (stxE ((x1.nd 44).nd 34).ok ((x1.nd 44).nd 34).s).1 = key at *
  simp only [jOf_vw]
  rintro z5 rfl
  have kl := kp_loop t (pos' t v.2.s : Nat) v.2.n v.2.ok d K L key v.1 (by omega) K.length 0 (by omega)
  rw [List.drop_zero, Nat.zero_add] at kl
  have hp := kPos_le key K
  refine ⟨⟨rfl, .loopTo kl⟩, ?_⟩
  subst hy
  have e1 : List.take (kPos key K) (encs encStr K) = encs encStr (K.take (kPos key K)) := by have := layStr.take K (kPos key K); rwa [Nat.mul_one] at this
  have e2 : List.drop (kPos key K) (List.take K.length (encs encStr K)) = encs encStr (K.drop (kPos key K)) := by
   have := layStr.drop K (kPos key K); rw [Nat.mul_one] at this
   rw [List.take_of_length_le (by rw [layStr.length]; omega), this]
  have e3 := layJ.take L (kPos key K)
  have e4 : List.drop (kPos key K * 5) (List.take (L.length * 5) (encs encJ L)) = encs encJ (L.drop (kPos key K)) := by
   rw [List.take_of_length_le (by rw [layJ.length]; omega), layJ.drop]
  simp only [Int.toNat_natCast, Nat.sub_zero, Nat.zero_add, Nat.mul_one, List.drop_zero, e1, e2, e3, e4, layStr.length, layJ.length, layStr.all, layJ.all, List.length_append, List.length_singleton, List.length_take, List.length_drop]
  have kd1 : kPos key K < K.length → K.getD (kPos key K) [] = key → kDup key K = true := fun h1 h2 => by unfold kDup; rw [decide_eq_true h1, h2]; simp
  have kd2 : kPos key K < K.length → ¬ K.getD (kPos key K) [] = key → kDup key K = false := fun h1 h2 => by unfold kDup; rw [decide_eq_true h1]; simpa using h2
  have kd3 : ¬ kPos key K < K.length → kDup key K = false := fun h1 => by unfold kDup; rw [decide_eq_false h1]; rfl
  have hat : kPos key K < K.length → List.take 1 (List.drop (kPos key K) (encs encStr K)) = [V.str (K.getD (kPos key K) [])] := fun h1 => by
   have := layStr.at K [] (kPos key K) 1 h1 rfl
   rw [Nat.mul_one] at this; exact this
  simp only at h
  rw [so_state _ _ _ _ _ _ _ _ _ hKL] at h
  refine ⟨fun h1 => ⟨⟨⟨by omega, by omega⟩, hat (by omega)⟩, fun h2 => ?_, fun h2 => ?_⟩, fun h1 => ?_⟩
  ·rw [kd1 (by omega) h2, Bool.not_true, Bool.and_false] at h
   (repeat' with_reducible apply And.intro) <;> first | omega | trivial | exact h | (simp only [List.length_cons, List.length_nil]; omega)
  ·rw [kd2 (by omega) h2, Bool.not_false, Bool.and_true] at h
   (repeat' with_reducible apply And.intro) <;> first | omega | trivial | exact h | (simp only [List.length_cons, List.length_nil]; omega)
  ·rw [kd3 (by omega), Bool.not_false, Bool.and_true] at h
   (repeat' with_reducible apply And.intro) <;> first | omega | trivial | exact h | (simp only [List.length_cons, List.length_nil]; omega)
 ·have hem : L.isEmpty = true := by cases L with
   | nil => rfl
   | cons a L => simp at hL0
  rw [hem] at hy
  simp only [cond_true] at hy
  have s2 := s1
  have hn2 := hx1
  have s3 := (snd_suf 34 x1).trans s2
  rw [ss_eta s2]
  rintro z1 rfl
  refine ⟨snd_run 34 (by omega) x1 s2, ?_⟩
  rw [show t.drop ((pos' t (x1.nd 34).s : Nat) : Int).toNat = (x1.nd 34).s from by rw [Int.toNat_natCast, drop_pos s3]]
  rintro z2 rfl
  refine ⟨stext_ok (by omega) s3 _ _, ?_⟩
  have s4 : (stxE (x1.nd 34).ok (x1.nd 34).s).2.2 <:+ t := (stxE_suf _ _).trans s3
  have hf : sField val x1 ⟨K, L⟩ = (⟨(val ((SS.mk (stxE (x1.nd 34).ok (x1.nd 34).s).2.2 (x1.nd 34).n (stxE (x1.nd 34).ok (x1.nd 34).s).2.1).nd 58)).2.s, (val ((SS.mk (stxE (x1.nd 34).ok (x1.nd 34).s).2.2 (x1.nd 34).n (stxE (x1.nd 34).ok (x1.nd 34).s).2.1).nd 58)).2.n, (val ((SS.mk (stxE (x1.nd 34).ok (x1.nd 34).s).2.2 (x1.nd 34).n (stxE (x1.nd 34).ok (x1.nd 34).s).2.1).nd 58)).2.ok && !kDup (stxE (x1.nd 34).ok (x1.nd 34).s).1 K⟩, kIns (stxE (x1.nd 34).ok (x1.nd 34).s).1 (val ((SS.mk (stxE (x1.nd 34).ok (x1.nd 34).s).2.2 (x1.nd 34).n (stxE (x1.nd 34).ok (x1.nd 34).s).2.1).nd 58)).1 ⟨K, L⟩) := rfl
  rw [ss_eta (x := ⟨(stxE (x1.nd 34).ok (x1.nd 34).s).2.2, (x1.nd 34).n, (stxE (x1.nd 34).ok (x1.nd 34).s).2.1⟩) s4]
  have c58 := snd_run 58 (by omega) ⟨(stxE (x1.nd 34).ok (x1.nd 34).s).2.2, (x1.nd 34).n, (stxE (x1.nd 34).ok (x1.nd 34).s).2.1⟩ s4
  have s5 := (snd_suf 58 ⟨(stxE (x1.nd 34).ok (x1.nd 34).s).2.2, (x1.nd 34).n, (stxE (x1.nd 34).ok (x1.nd 34).s).2.1⟩).trans s4
  have hn5 : ((SS.mk (stxE (x1.nd 34).ok (x1.nd 34).s).2.2 (x1.nd 34).n (stxE (x1.nd 34).ok (x1.nd 34).s).2.1).nd 58).n = x1.n := rfl
  rintro z3 rfl
  refine ⟨c58, ?_⟩
  rw [ss_eta s5]
  rw [hf] at hy
  have hI5 : SIn t ((SS.mk (stxE (x1.nd 34).ok (x1.nd 34).s).2.2 (x1.nd 34).n (stxE (x1.nd 34).ok (x1.nd 34).s).2.1).nd 58) := ⟨s5, by rw [hn5, hn2]; exact hI.lo, by rw [hn5, hn2]; exact hI.hi⟩
  rintro z4 rfl
  refine ⟨hV.run _ hI5, ?_⟩
  generalize val ((SS.mk (stxE (x1.nd 34).ok (x1.nd 34).s).2.2 (x1.nd 34).n (stxE (x1.nd 34).ok (x1.nd 34).s).2.1).nd 58) = v at *
  generalize (stxE (x1.nd 34).ok (x1.nd 34).s).1 = key at *
  simp only [jOf_vw]
  rintro z5 rfl
  have kl := kp_loop t (pos' t v.2.s : Nat) v.2.n v.2.ok d K L key v.1 (by omega) K.length 0 (by omega)
  rw [List.drop_zero, Nat.zero_add] at kl
  have hp := kPos_le key K
  refine ⟨⟨rfl, .loopTo kl⟩, ?_⟩
  subst hy
  have e1 : List.take (kPos key K) (encs encStr K) = encs encStr (K.take (kPos key K)) := by have := layStr.take K (kPos key K); rwa [Nat.mul_one] at this
  have e2 : List.drop (kPos key K) (List.take K.length (encs encStr K)) = encs encStr (K.drop (kPos key K)) := by
   have := layStr.drop K (kPos key K); rw [Nat.mul_one] at this
   rw [List.take_of_length_le (by rw [layStr.length]; omega), this]
  have e3 := layJ.take L (kPos key K)
  have e4 : List.drop (kPos key K * 5) (List.take (L.length * 5) (encs encJ L)) = encs encJ (L.drop (kPos key K)) := by
   rw [List.take_of_length_le (by rw [layJ.length]; omega), layJ.drop]
  simp only [Int.toNat_natCast, Nat.sub_zero, Nat.zero_add, Nat.mul_one, List.drop_zero, e1, e2, e3, e4, layStr.length, layJ.length, layStr.all, layJ.all, List.length_append, List.length_singleton, List.length_take, List.length_drop]
  have kd1 : kPos key K < K.length → K.getD (kPos key K) [] = key → kDup key K = true := fun h1 h2 => by unfold kDup; rw [decide_eq_true h1, h2]; simp
  have kd2 : kPos key K < K.length → ¬ K.getD (kPos key K) [] = key → kDup key K = false := fun h1 h2 => by unfold kDup; rw [decide_eq_true h1]; simpa using h2
  have kd3 : ¬ kPos key K < K.length → kDup key K = false := fun h1 => by unfold kDup; rw [decide_eq_false h1]; rfl
  have hat : kPos key K < K.length → List.take 1 (List.drop (kPos key K) (encs encStr K)) = [V.str (K.getD (kPos key K) [])] := fun h1 => by
   have := layStr.at K [] (kPos key K) 1 h1 rfl
   rw [Nat.mul_one] at this; exact this
  simp only at h
  rw [so_state _ _ _ _ _ _ _ _ _ hKL] at h
  refine ⟨fun h1 => ⟨⟨⟨by omega, by omega⟩, hat (by omega)⟩, fun h2 => ?_, fun h2 => ?_⟩, fun h1 => ?_⟩
  ·rw [kd1 (by omega) h2, Bool.not_true, Bool.and_false] at h
   (repeat' with_reducible apply And.intro) <;> first | omega | trivial | exact h | (simp only [List.length_cons, List.length_nil]; omega)
  ·rw [kd2 (by omega) h2, Bool.not_false, Bool.and_true] at h
   (repeat' with_reducible apply And.intro) <;> first | omega | trivial | exact h | (simp only [List.length_cons, List.length_nil]; omega)
  ·rw [kd3 (by omega), Bool.not_false, Bool.and_true] at h
   (repeat' with_reducible apply And.intro) <;> first | omega | trivial | exact h | (simp only [List.length_cons, List.length_nil]; omega)
end Go.Proofs.YtfncaghjfgnnhaaGreatDoor

namespace Go.Proofs.YtfncaghjfgnnhaaGreatDoor
open Go.RowKit
set_option maxRecDepth 100000
def zO5 : Option Blk := some ([.int .i64 5, .int .i64 0, .str [], .dsl 0 true [], .dsl 0 true []], tJ)
def stKz (t : List UInt8) (i n : Int) (ok : Bool) (d : Int) (key : List UInt8) (v : J) : St := ⟨mkTm 99 [(0, .ptr 0 0), (1, .int .i64 d), (4, .ptr 1 0), (5, .ptr 2 0), (6, .str key), (7, .ptr 3 0), (8, .int .i64 0)], [sdI t i n ok, zJ, zO5, some (vwJ v, tJ)], [0]⟩
def stSZ (t : List UInt8) (i n : Int) (ok : Bool) (d : Int) : St := ⟨mkTm 99 [(0, .ptr 0 0), (1, .int .i64 d), (4, .ptr 1 0), (5, .ptr 2 0)], [sdI t i n ok, zJ, zO5], [0]⟩
--FOLD vwJ sdI ssB zJ zO5 nO5
set_option maxRecDepth 100000 in
theorem kzT (t : List UInt8) (i n : Int) (ok : Bool) (d : Int) (key : List UInt8) (v : J) : bodyT (ESO1 (fun x => (J.zero, x))) 1 nfKp (lp Tryz.prog fSObj 2) (stKz t i n ok d key v) = (
 .done (Ex.exit 2, St.mk (mkTm 99 [(0, .ptr 0 0), (1, .int .i64 d), (4, .ptr 1 0), (5, .ptr 2 0), (6, .str key), (7, .ptr 3 0), (8, .int .i64 0)]) [sdI t i n ok, zJ, zO5, some (vwJ v, 25)] [0]) : T _) := (T.force_eq _).symm.trans (by kernel_rfl)
noncomputable def lsKz : Nat → St → Option LRes := fun id s => match id, s.tm.get 1, s.tm.get 6, s.hp with
 | 2, .int _ d, .str key, some ([.str t, .int _ i, .int _ n, .bool ok], _) :: _ :: _ :: some ([.int _ a, .int _ b, .str c, .dsl _ _ e, .dsl _ _ g], _) :: _ => some ⟨jOf a b c e g, fun y => .one { keep := [0, 1, 4, 5, 6, 7, 8], wr := [0], perm := some ([0, 1, 2, 3], []) } (stKz t i n ok d key y) (.exit 2) (stKz t i n ok d key y)⟩
 | _, _, _, _ => none
noncomputable def ESZ (val : SS → J × SS) : Env := { P := Tryz.prog, vw := vwA, res := resSO1 val, ls := lsKz }
set_option maxRecDepth 100000 in
theorem szT (val : SS → J × SS) (t : List UInt8) (i n : Int) (ok : Bool) (d : Int) : bodyT (ESZ val) 1 nfSO (lp Tryz.prog fSObj 0) (stSZ t i n ok d) =
 bif ok then
 T.bind (SS.tk (125 : UInt8) (SS.mk (List.drop (Int.toNat i) t) n ok)) fun y0 =>
 T.need
 [FnOK (Env.P (ESZ val)) 68 [V.ptr 0 0, V.int IntKind.u8 (125 : Int)] [sdI t i n ok]
 (Ret.mk (V.bool (Prod.fst y0)) [sdI t (↑(pos' t (SS.s (Prod.snd y0))) : Int) (SS.n (Prod.snd y0)) (SS.ok (Prod.snd y0))] [0])]
 (bif !Prod.fst y0 then
 T.bind (SS.nd (34 : UInt8) (SS.mk (List.drop (Int.toNat (↑(pos' t (SS.s (Prod.snd y0))) : Int)) t) (SS.n (Prod.snd y0)) (SS.ok (Prod.snd y0)))) fun y1 =>
 T.need
 [FnOK (Env.P (ESZ val)) 92 [V.ptr 0 0, V.int IntKind.u8 (34 : Int)] [sdI t (↑(pos' t (SS.s (Prod.snd y0))) : Int) (SS.n (Prod.snd y0)) (SS.ok (Prod.snd y0))]
 (Ret.mk (V.tup []) [sdI t (↑(pos' t (SS.s y1)) : Int) (SS.n y1) (SS.ok y1)] [0])]
 (T.bind (stxE (SS.ok y1) (List.drop (Int.toNat (↑(pos' t (SS.s y1)) : Int)) t)) fun y2 =>
 T.need
 [FnOK (Env.P (ESZ val)) 69 [V.ptr 0 0] [sdI t (↑(pos' t (SS.s y1)) : Int) (SS.n y1) (SS.ok y1)]
 (Ret.mk (V.str (Prod.fst y2))
 [sdI t (↑(pos' t (SS.s (SS.mk (Prod.snd (Prod.snd y2)) (SS.n y1) (Prod.fst (Prod.snd y2))))) : Int) (SS.n (SS.mk (Prod.snd (Prod.snd y2)) (SS.n y1) (Prod.fst (Prod.snd y2))))
 (SS.ok (SS.mk (Prod.snd (Prod.snd y2)) (SS.n y1) (Prod.fst (Prod.snd y2))))]
 [0])]
 (T.bind
 (SS.nd (58 : UInt8)
 (SS.mk (List.drop (Int.toNat (↑(pos' t (SS.s (SS.mk (Prod.snd (Prod.snd y2)) (SS.n y1) (Prod.fst (Prod.snd y2))))) : Int)) t) (SS.n (SS.mk (Prod.snd (Prod.snd y2)) (SS.n y1) (Prod.fst (Prod.snd y2))))
 (SS.ok (SS.mk (Prod.snd (Prod.snd y2)) (SS.n y1) (Prod.fst (Prod.snd y2))))))
 fun y3 =>
 T.need
 [FnOK (Env.P (ESZ val)) 92 [V.ptr 0 0, V.int IntKind.u8 (58 : Int)]
 [sdI t (↑(pos' t (SS.s (SS.mk (Prod.snd (Prod.snd y2)) (SS.n y1) (Prod.fst (Prod.snd y2))))) : Int) (SS.n (SS.mk (Prod.snd (Prod.snd y2)) (SS.n y1) (Prod.fst (Prod.snd y2))))
 (SS.ok (SS.mk (Prod.snd (Prod.snd y2)) (SS.n y1) (Prod.fst (Prod.snd y2))))]
 (Ret.mk (V.tup []) [sdI t (↑(pos' t (SS.s y3)) : Int) (SS.n y3) (SS.ok y3)] [0])]
 (T.bind (val (SS.mk (List.drop (Int.toNat (↑(pos' t (SS.s y3)) : Int)) t) (SS.n y3) (SS.ok y3))) fun y4 =>
 T.need
 [FnOK (Env.P (ESZ val)) 45 [V.ptr 0 0, V.int IntKind.i64 (IntKind.wrap IntKind.i64 (d - (1 : Int)))] [sdI t (↑(pos' t (SS.s y3)) : Int) (SS.n y3) (SS.ok y3)]
 (Ret.mk (V.agg (vwJ (Prod.fst y4))) [sdI t (↑(pos' t (SS.s (Prod.snd y4))) : Int) (SS.n (Prod.snd y4)) (SS.ok (Prod.snd y4))] [0])]
 (T.bind (jOf (J.kind (Prod.fst y4)) (J.n (Prod.fst y4)) (J.t (Prod.fst y4)) (encs encStr (J.keys (Prod.fst y4))) (encs encJ (J.items (Prod.fst y4)))) fun y5 =>
 T.need
 [St.mk
 (mkTm 99
 [(0, V.ptr 0 0), (1, V.int IntKind.i64 d), (4, V.ptr 1 0), (5, V.ptr 2 0),
 (6, V.str (Prod.fst y2)), (7, V.ptr 3 0), (8, V.int IntKind.i64 (0 : Int))])
 [sdI t (↑(pos' t (SS.s (Prod.snd y4))) : Int) (SS.n (Prod.snd y4)) (SS.ok (Prod.snd y4)), zJ, zO5, some (vwJ (Prod.fst y4), 25)] [0] =
 St.mk
 (mkTm 99
 [(0, V.ptr 0 0), (1, V.int IntKind.i64 d), (4, V.ptr 1 0), (5, V.ptr 2 0),
 (6, V.str (Prod.fst y2)), (7, V.ptr 3 0), (8, V.int IntKind.i64 (0 : Int))])
 [sdI t (↑(pos' t (SS.s (Prod.snd y4))) : Int) (SS.n (Prod.snd y4)) (SS.ok (Prod.snd y4)), zJ, zO5, some (vwJ y5, 25)] [0],
 SoundC (Env.P (ESZ val)) 1 (blk Tryz.prog fSObj 2)
 (St.mk
 (mkTm 99
 [(0, V.ptr 0 0), (1, V.int IntKind.i64 d), (4, V.ptr 1 0), (5, V.ptr 2 0),
 (6, V.str (Prod.fst y2)), (7, V.ptr 3 0), (8, V.int IntKind.i64 (0 : Int))])
 [sdI t (↑(pos' t (SS.s (Prod.snd y4))) : Int) (SS.n (Prod.snd y4)) (SS.ok (Prod.snd y4)), zJ, zO5, some (vwJ y5, 25)] [0])
 (Ex.exit 2)
 (St.mk
 (mkTm 99
 [(0, V.ptr 0 0), (1, V.int IntKind.i64 d), (4, V.ptr 1 0), (5, V.ptr 2 0),
 (6, V.str (Prod.fst y2)), (7, V.ptr 3 0), (8, V.int IntKind.i64 (0 : Int))])
 [sdI t (↑(pos' t (SS.s (Prod.snd y4))) : Int) (SS.n (Prod.snd y4)) (SS.ok (Prod.snd y4)), zJ, zO5, some (vwJ y5, 25)] [0])]
 (T.need [(0 : Int) ≤ (0 : Int) ∧ (0 : Int) ≤ (0 : Int)]
 (T.need [0 = 0, true = true, 0 = 0, 0 = 0, 0 ≤ 9223372036854775807, 0 ≤ 140737488355328]
 (T.need [0 = 0, 0 = 0, 1 ≤ 9223372036854775807, 16 ≤ 140737488355328]
 (T.need [(0 : Int) ≤ (0 : Int) ∧ (0 : Int) ≤ (0 : Int)]
 (T.need [0 = 0, true = true, 0 = 0, 1 = 1, 1 ≤ 9223372036854775807, 16 ≤ 140737488355328]
 (T.need [(0 : Int) ≤ (0 : Int) ∧ (0 : Int) ≤ (0 : Int)]
 (T.need [0 = 0, true = true, 0 = 0, 0 = 0, 0 ≤ 9223372036854775807, 0 ≤ 140737488355328]
 (T.need [0 = 0, 0 = 0, 1 ≤ 9223372036854775807, 80 ≤ 140737488355328]
 (T.need [(0 : Int) ≤ (0 : Int) ∧ (0 : Int) ≤ (0 : Int)]
 (T.need [0 = 0, true = true, 0 = 0, 5 = 5, 1 ≤ 9223372036854775807, 80 ≤ 140737488355328]
 (T.done
 (Ex.normal,
 St.mk
 (mkTm 99
 [(0, V.ptr 0 0), (1, V.int IntKind.i64 d), (4, V.ptr 1 0), (5, V.ptr 2 0)])
 [sdI t (↑(pos' t (SS.s (Prod.snd y4))) : Int) (SS.n (Prod.snd y4)) (SS.ok (Prod.snd y4)), zJ,
 some
 ([V.int IntKind.i64 (5 : Int), V.int IntKind.i64 (0 : Int), V.str [], V.dsl 1 false [V.str (Prod.fst y2)], V.dsl 1 false (vwJ y5)], 25)]
 [0]))))))))))))))))
 else
 T.done
 (Ex.exit 0,
 St.mk (mkTm 99 [(0, V.ptr 0 0), (1, V.int IntKind.i64 d), (4, V.ptr 1 0), (5, V.ptr 2 0)])
 [sdI t (↑(pos' t (SS.s (Prod.snd y0))) : Int) (SS.n (Prod.snd y0)) (SS.ok (Prod.snd y0)), zJ, zO5] [0]))
 else
 T.done
 (Ex.exit 0,
 St.mk (mkTm 99 [(0, V.ptr 0 0), (1, V.int IntKind.i64 d), (4, V.ptr 1 0), (5, V.ptr 2 0)]) [sdI t i n ok, zJ, zO5]
 [0]) := by kernel_rfl
theorem sz_step {t : List UInt8} {d : Int} {val : SS → J × SS} (ht : t.length ≤ 1000000) (hd : 1 ≤ d ∧ d ≤ 1000) (hV : SValOK t (d - 1) val) (x : SS) (hI : SIn t x) (hok : x.ok = true) (hk : (x.tk 125).1 = false) {y : SS × KL} (hy : y = sField val (x.tk 125).2 ⟨[], []⟩) {fin : St}
  (h : LoopTo Tryz.prog 1 (lp Tryz.prog fSObj 0) (stSO t (pos' t y.1.s : Nat) y.1.n y.1.ok d y.2.ks y.2.its) (.exit 0) fin) :
  LoopTo Tryz.prog 1 (lp Tryz.prog fSObj 0) (stSZ t (pos' t x.s : Nat) x.n x.ok d) (.exit 0) fin := by
 obtain ⟨s, m, ok⟩ := x
 simp only at hok
 subst hok
 have hs := hI.suf
 have c1 := stk_run 125 (by omega) ⟨s, m, true⟩ hs
 have s1 := (stk_suf 125 ⟨s, m, true⟩).trans hs
 have hx1 : ((SS.mk s m true).tk 125).2.n = m := rfl
 have hw : IntKind.i64.wrap (d - 1) = d - 1 := wrap_id (by omega)
 refine loopT (E := ESZ val) follows named (szT val t (pos' t s : Nat) m true d) ?_
 simp only [WP_cond, T.WP, All, and_true, hw]
 refine ⟨fun _ => ?_, fun h => by simp at h⟩
 rw [show SS.mk (t.drop ((pos' t s : Nat) : Int).toNat) m true = ⟨s, m, true⟩ from ss_eta (x := ⟨s, m, true⟩) hs]
 rintro y rfl
 refine ⟨c1, fun _ => ?_, fun h => by rw [hk] at h; simp at h⟩
 generalize ((SS.mk s m true).tk 125).2 = x1 at *
 have s2 := s1
 have hn2 := hx1
 have s3 := (snd_suf 34 x1).trans s2
 rw [ss_eta s2]
 rintro z1 rfl
 refine ⟨snd_run 34 (by omega) x1 s2, ?_⟩
 rw [show t.drop ((pos' t (x1.nd 34).s : Nat) : Int).toNat = (x1.nd 34).s from by rw [Int.toNat_natCast, drop_pos s3]]
 rintro z2 rfl
 refine ⟨stext_ok (by omega) s3 _ _, ?_⟩
 have s4 : (stxE (x1.nd 34).ok (x1.nd 34).s).2.2 <:+ t := (stxE_suf _ _).trans s3
 have hf : sField val x1 ⟨[], []⟩ = (⟨(val ((SS.mk (stxE (x1.nd 34).ok (x1.nd 34).s).2.2 (x1.nd 34).n (stxE (x1.nd 34).ok (x1.nd 34).s).2.1).nd 58)).2.s, (val ((SS.mk (stxE (x1.nd 34).ok (x1.nd 34).s).2.2 (x1.nd 34).n (stxE (x1.nd 34).ok (x1.nd 34).s).2.1).nd 58)).2.n, (val ((SS.mk (stxE (x1.nd 34).ok (x1.nd 34).s).2.2 (x1.nd 34).n (stxE (x1.nd 34).ok (x1.nd 34).s).2.1).nd 58)).2.ok && !kDup (stxE (x1.nd 34).ok (x1.nd 34).s).1 []⟩, kIns (stxE (x1.nd 34).ok (x1.nd 34).s).1 (val ((SS.mk (stxE (x1.nd 34).ok (x1.nd 34).s).2.2 (x1.nd 34).n (stxE (x1.nd 34).ok (x1.nd 34).s).2.1).nd 58)).1 ⟨[], []⟩) := rfl
 rw [ss_eta (x := ⟨(stxE (x1.nd 34).ok (x1.nd 34).s).2.2, (x1.nd 34).n, (stxE (x1.nd 34).ok (x1.nd 34).s).2.1⟩) s4]
 have c58 := snd_run 58 (by omega) ⟨(stxE (x1.nd 34).ok (x1.nd 34).s).2.2, (x1.nd 34).n, (stxE (x1.nd 34).ok (x1.nd 34).s).2.1⟩ s4
 have s5 := (snd_suf 58 ⟨(stxE (x1.nd 34).ok (x1.nd 34).s).2.2, (x1.nd 34).n, (stxE (x1.nd 34).ok (x1.nd 34).s).2.1⟩).trans s4
 have hn5 : ((SS.mk (stxE (x1.nd 34).ok (x1.nd 34).s).2.2 (x1.nd 34).n (stxE (x1.nd 34).ok (x1.nd 34).s).2.1).nd 58).n = x1.n := rfl
 rintro z3 rfl
 refine ⟨c58, ?_⟩
 rw [ss_eta s5]
 rw [hf] at hy
 have hI5 : SIn t ((SS.mk (stxE (x1.nd 34).ok (x1.nd 34).s).2.2 (x1.nd 34).n (stxE (x1.nd 34).ok (x1.nd 34).s).2.1).nd 58) := ⟨s5, by rw [hn5, hn2]; exact hI.lo, by rw [hn5, hn2]; exact hI.hi⟩
 rintro z4 rfl
 refine ⟨hV.run _ hI5, ?_⟩
 generalize val ((SS.mk (stxE (x1.nd 34).ok (x1.nd 34).s).2.2 (x1.nd 34).n (stxE (x1.nd 34).ok (x1.nd 34).s).2.1).nd 58) = v at *
 generalize (stxE (x1.nd 34).ok (x1.nd 34).s).1 = key at *
 simp only [jOf_vw]
 rintro z5 rfl
 have kl : LoopTo Tryz.prog 1 (lp Tryz.prog fSObj 2) (stKz t (pos' t v.2.s : Nat) v.2.n v.2.ok d key v.1) (.exit 2) (stKz t (pos' t v.2.s : Nat) v.2.n v.2.ok d key v.1) := by
  refine loopT (E := ESO1 (fun x => (J.zero, x))) follows named (kzT t _ v.2.n v.2.ok d key v.1) ?_
  simp only [T.WP]
  exact ⟨rfl, rfl⟩
 subst hy
 simp only at h
 rw [so_state _ _ _ _ _ [] [] key v.1 rfl] at h
 have kd : kDup key [] = false := rfl
 rw [kd, Bool.not_false, Bool.and_true] at h
 refine ⟨⟨rfl, .loopTo kl⟩, ?_⟩
 (repeat' with_reducible apply And.intro) <;> first | omega | trivial | exact h
theorem sField_out {val : SS → J × SS} (hV : ∀ x, 0 ≤ x.n → x.n ≤ 400 → SOut x (val x).2) (x : SS) (a : KL) (h1 : 0 ≤ x.n) (h2 : x.n ≤ 400) : SOut x (sField val x a).1 := by
 have key : ∀ x2 : SS, x2.s <:+ x.s → x2.n = x.n → ∀ b : Bool, SOut x ⟨(val x2).2.s, (val x2).2.n, (val x2).2.ok && b⟩ := fun x2 hs hn b => by
  have o := hV x2 (by omega) (by omega)
  refine ⟨o.suf.trans hs, fun h => ?_, ?_, o.hi⟩
  ·have h' : (val x2).2.ok = true := by
    have : ((val x2).2.ok && b) = true := h
    rw [Bool.and_eq_true] at this; exact this.1
   have := o.on h'
   have := hs.length_le
   exact ⟨by show (val x2).2.s.length + 1 ≤ x.s.length; omega, by show (val x2).2.n ≤ 400; omega⟩
  ·have := o.lo; show x.n ≤ (val x2).2.n; omega
 exact key ((SS.mk (stxE (x.nd 34).ok (x.nd 34).s).2.2 (x.nd 34).n (stxE (x.nd 34).ok (x.nd 34).s).2.1).nd 58) ((snd_suf _ _).trans ((stxE_suf _ _).trans (snd_suf _ _))) rfl _
theorem kIns_len (key : List UInt8) (v : J) (a : KL) (h : a.ks.length = a.its.length) : (kIns key v a).ks.length = a.ks.length + 1 ∧ (kIns key v a).its.length = a.its.length + 1 := by
 have hp := kPos_le key a.ks
 unfold kIns
 constructor <;> simp <;> omega
theorem sField_len (val : SS → J × SS) (x : SS) (a : KL) (h : a.ks.length = a.its.length) : (sField val x a).2.ks.length = a.ks.length + 1 ∧ (sField val x a).2.its.length = a.its.length + 1 := kIns_len _ _ a h
theorem sObj_off (f : SS → J × SS) (n : Nat) (x : SS) (a : KL) (h : x.ok = false) : sObj f n x a = (x, a) := by
 cases n with
 | zero => rfl
 | succ n => rw [sObj, h]; rfl
theorem sObj_on (f : SS → J × SS) (n : Nat) (x : SS) (a : KL) (h : x.ok = true) : sObj f (n + 1) x a = bif (x.tk 125).1 then ((x.tk 125).2, a) else sObj f n (sField f (bif a.its.isEmpty then (x.tk 125).2 else (x.tk 125).2.nd 44) a).1 (sField f (bif a.its.isEmpty then (x.tk 125).2 else (x.tk 125).2.nd 44) a).2 := by
 rw [sObj, h]; rfl
theorem so_loop {t : List UInt8} {d : Int} {val : SS → J × SS} (ht : t.length ≤ 500000) (hd : 1 ≤ d ∧ d ≤ 1000) (hV : SValOK t (d - 1) val) : ∀ (n : Nat) (x : SS) (a : KL), x.s <:+ t → a.ks.length = a.its.length → (x.ok = true → SIn t x ∧ a.its.length + x.s.length ≤ t.length + 1 ∧ x.s.length + 1 ≤ n) →
  LoopTo Tryz.prog 1 (lp Tryz.prog fSObj 0) (stSO t (pos' t x.s : Nat) x.n x.ok d a.ks a.its) (.exit 0) (stSO t (pos' t (sObj val n x a).1.s : Nat) (sObj val n x a).1.n (sObj val n x a).1.ok d (sObj val n x a).2.ks (sObj val n x a).2.its)
 | n, ⟨s, m, false⟩, a, hs, hKL, hr => by
  rw [sObj_off _ _ _ _ rfl]
  refine loopT (E := ESP val) follows named (soT val t (pos' t s : Nat) m false d a.ks a.its) ?_
  simp only [WP_cond, T.WP, All, decide_eq_true_eq, decide_eq_false_iff_not, and_true, beq_iff_eq, beq_eq_false_iff_ne, ne_eq]
  exact ⟨fun h => by simp at h, fun _ => ⟨rfl, rfl⟩⟩
 | 0, ⟨s, m, true⟩, a, hs, hKL, hr => by have := (hr rfl).2.2; omega
 | n + 1, ⟨s, m, true⟩, a, hs, hKL, hr => by
  obtain ⟨hI, hL, hn⟩ := hr rfl
  rw [sObj_on _ _ _ _ rfl]
  cases hk : ((SS.mk s m true).tk 125).1 with
  | true =>
   have c1 := stk_run 125 (by omega) ⟨s, m, true⟩ hs
   refine loopT (E := ESP val) follows named (soT val t (pos' t s : Nat) m true d a.ks a.its) ?_
   simp only [WP_cond, T.WP, All, decide_eq_true_eq, decide_eq_false_iff_not, and_true, beq_iff_eq, beq_eq_false_iff_ne, ne_eq]
   refine ⟨fun _ => ?_, fun h => by simp at h⟩
   rw [show SS.mk (t.drop ((pos' t s : Nat) : Int).toNat) m true = ⟨s, m, true⟩ from ss_eta (x := ⟨s, m, true⟩) hs]
   rintro y rfl
   exact ⟨c1, fun h => by rw [hk] at h; simp at h, fun _ => ⟨rfl, rfl⟩⟩
  | false =>
   simp only [cond_false]
   have l0 : s.length ≤ t.length := hs.length_le
   have hx2 : (bif a.its.isEmpty then ((SS.mk s m true).tk 125).2 else ((SS.mk s m true).tk 125).2.nd 44).s <:+ s ∧ (bif a.its.isEmpty then ((SS.mk s m true).tk 125).2 else ((SS.mk s m true).tk 125).2.nd 44).n = m := by
    cases a.its.isEmpty with
    | true => exact ⟨stk_suf 125 ⟨s, m, true⟩, rfl⟩
    | false => exact ⟨(snd_suf 44 _).trans (stk_suf 125 ⟨s, m, true⟩), rfl⟩
   have hst := fun fin h => so_step (by omega) hd hV ⟨s, m, true⟩ hI rfl a.ks a.its hKL (by simp only at hL; omega) hk (y := sField val (bif a.its.isEmpty then ((SS.mk s m true).tk 125).2 else ((SS.mk s m true).tk 125).2.nd 44) a) rfl (fin := fin) h
   refine hst _ ?_
   generalize (bif a.its.isEmpty then ((SS.mk s m true).tk 125).2 else ((SS.mk s m true).tk 125).2.nd 44) = x2 at *
   have o := sField_out hV.out x2 a (by rw [hx2.2]; exact hI.lo) (by rw [hx2.2]; exact hI.hi)
   obtain ⟨q1, q2⟩ := sField_len val x2 a hKL
   have l2 := hx2.1.length_le
   refine so_loop ht hd hV n (sField val x2 a).1 (sField val x2 a).2 (o.suf.trans (hx2.1.trans hs)) (by omega) (fun hok => ?_)
   obtain ⟨o1, o2⟩ := o.on hok
   have o3 := o.lo
   have h0 : 0 ≤ m := hI.lo
   simp only at hL hn
   exact ⟨⟨o.suf.trans (hx2.1.trans hs), by rw [hx2.2] at o3; omega, o2⟩, by omega, by omega⟩
theorem sObj_ne (f : SS → J × SS) : ∀ (n : Nat) (x : SS) (a : KL), a.ks.length = a.its.length → a.its ≠ [] → (sObj f n x a).2.its ≠ []
 | 0, x, a, _, h => h
 | n + 1, x, a, hl, h => by
  cases hx : x.ok with
  | false => rw [sObj_off _ _ _ _ hx]; exact h
  | true =>
   rw [sObj_on _ _ _ _ hx]
   cases (x.tk 125).1 with
   | true => exact h
   | false =>
    simp only [cond_false]
    obtain ⟨q1, q2⟩ := sField_len f (bif a.its.isEmpty then (x.tk 125).2 else (x.tk 125).2.nd 44) a hl
    exact sObj_ne f n _ _ (by omega) (fun e => by rw [e] at q2; simp at q2)
end Go.Proofs.YtfncaghjfgnnhaaGreatDoor

namespace Go.Proofs.YtfncaghjfgnnhaaGreatDoor
open Go.RowKit
set_option maxRecDepth 100000
def stSOe (t : List UInt8) (x : SS) (d : Int) (a : KL) : St := bif a.its.isEmpty then stSZ t (pos' t x.s : Nat) x.n x.ok d else stSO t (pos' t x.s : Nat) x.n x.ok d a.ks a.its
theorem so0_loop {t : List UInt8} {d : Int} {val : SS → J × SS} (ht : t.length ≤ 500000) (hd : 1 ≤ d ∧ d ≤ 1000) (hV : SValOK t (d - 1) val) (n : Nat) (x : SS) (hI : SIn t x) (hok : x.ok = true) (hn : x.s.length + 1 ≤ n) :
  LoopTo Tryz.prog 1 (lp Tryz.prog fSObj 0) (stSZ t (pos' t x.s : Nat) x.n x.ok d) (.exit 0) (stSOe t (sObj val (n + 1) x ⟨[], []⟩).1 d (sObj val (n + 1) x ⟨[], []⟩).2) := by
 rw [sObj_on _ _ _ _ hok]
 have hs := hI.suf
 have l0 : x.s.length ≤ t.length := hs.length_le
 cases hk : (x.tk 125).1 with
 | true =>
  obtain ⟨s, m, ok⟩ := x
  simp only at hok
  subst hok
  have c1 := stk_run 125 (by omega) ⟨s, m, true⟩ hs
  refine loopT (E := ESZ val) follows named (szT val t (pos' t s : Nat) m true d) ?_
  simp only [WP_cond, T.WP, All, and_true]
  refine ⟨fun _ => ?_, fun h => by simp at h⟩
  rw [show SS.mk (t.drop ((pos' t s : Nat) : Int).toNat) m true = ⟨s, m, true⟩ from ss_eta (x := ⟨s, m, true⟩) hs]
  rintro y rfl
  exact ⟨c1, fun h => by rw [hk] at h; simp at h, fun _ => ⟨rfl, rfl⟩⟩
 | false =>
  simp only [cond_false, List.isEmpty_nil, cond_true]
  have hst := fun fin h => sz_step (by omega) hd hV x hI hok hk (y := sField val (x.tk 125).2 ⟨[], []⟩) rfl (fin := fin) h
  refine hst _ ?_
  have s1 := stk_suf 125 x
  have l1 := s1.length_le
  have hn1 : (x.tk 125).2.n = x.n := rfl
  generalize (x.tk 125).2 = x2 at *
  have o := sField_out hV.out x2 ⟨[], []⟩ (by rw [hn1]; exact hI.lo) (by rw [hn1]; exact hI.hi)
  obtain ⟨q1, q2⟩ := sField_len val x2 ⟨[], []⟩ rfl
  simp only [List.length_nil, Nat.zero_add] at q1 q2
  have hl := so_loop ht hd hV n (sField val x2 ⟨[], []⟩).1 (sField val x2 ⟨[], []⟩).2 (o.suf.trans (s1.trans hs)) (by omega) (fun hok => by
   obtain ⟨o1, o2⟩ := o.on hok
   have o3 := o.lo
   have h0 := hI.lo
   exact ⟨⟨o.suf.trans (s1.trans hs), by rw [hn1] at o3; omega, o2⟩, by omega, by omega⟩)
  have hne := sObj_ne val n (sField val x2 ⟨[], []⟩).1 (sField val x2 ⟨[], []⟩).2 (by omega) (fun e => by rw [e] at q2; simp at q2)
  generalize sObj val n (sField val x2 ⟨[], []⟩).1 (sField val x2 ⟨[], []⟩).2 = y at *
  have ee : stSOe t y.1 d y.2 = stSO t (pos' t y.1.s : Nat) y.1.n y.1.ok d y.2.ks y.2.its := by
   unfold stSOe
   cases hL : y.2.its with
   | nil => exact absurd hL hne
   | cons a L => rfl
  rw [ee]
  exact hl
theorem sObj_kl (f : SS → J × SS) : ∀ (n : Nat) (x : SS) (a : KL), a.ks.length = a.its.length → (sObj f n x a).2.ks.length = (sObj f n x a).2.its.length
 | 0, x, a, h => h
 | n + 1, x, a, h => by
  cases hx : x.ok with
  | false => rw [sObj_off _ _ _ _ hx]; exact h
  | true =>
   rw [sObj_on _ _ _ _ hx]
   cases (x.tk 125).1 with
   | true => exact h
   | false =>
    simp only [cond_false]
    obtain ⟨q1, q2⟩ := sField_len f (bif a.its.isEmpty then (x.tk 125).2 else (x.tk 125).2.nd 44) a h
    exact sObj_kl f n _ _ (by omega)
noncomputable def lsSOb (val : SS → J × SS) (N : Nat) (t : List UInt8) (x : SS) (d : Int) : Nat → St → Option LRes := fun id _ => match id with
 | 0 => some ⟨sObj val N x ⟨[], []⟩, fun y => .two { keep := [0, 1, 4, 5], wr := [0] } (stSZ t (pos' t x.s : Nat) x.n x.ok d) y.2.its.isEmpty (.exit 0) (stSZ t (pos' t y.1.s : Nat) y.1.n y.1.ok d) (.exit 0) (stSO t (pos' t y.1.s : Nat) y.1.n y.1.ok d y.2.ks y.2.its)⟩
 | _ => none
--FOLD vwJ sdI ssB zJ zO5 nO5
set_option maxRecDepth 100000 in
theorem sobjT (val : SS → J × SS) (N : Nat) (t : List UInt8) (x : SS) (d : Int) : fnT { P := Tryz.prog, vw := vwA, res := resSO1 val, ls := lsSOb val N t x d } 0 fSObj [.ptr 0 0, .int .i64 d] [sdI t (pos' t x.s : Nat) x.n x.ok] = (
 .bind (sObj val N x (KL.mk [] [])) fun y0 => .need [St.mk (mkTm 99 [(0, .ptr 0 0), (1, .int .i64 d), (4, .ptr 1 0), (5, .ptr 2 0)]) [sdI t (↑(pos' t (SS.s x)) : Int) (SS.n x) (SS.ok x), zJ, zO5] [0] = St.mk (mkTm 99 [(0, .ptr 0 0), (1, .int
 .i64 d), (4, .ptr 1 0), (5, .ptr 2 0)]) [sdI t (↑(pos' t (SS.s x)) : Int) (SS.n x) (SS.ok x), zJ, zO5] [0]] (bif List.isEmpty (KL.its y0.2) then .need [SoundC Tryz.prog 1 (blk Tryz.prog fSObj 0) (St.mk (mkTm 99 [(0, .ptr 0 0), (1, .int .i64
 d), (4, .ptr 1 0), (5, .ptr 2 0)]) [sdI t (↑(pos' t (SS.s x)) : Int) (SS.n x) (SS.ok x), zJ, zO5] [0]) (Ex.exit 0) (St.mk (mkTm 99 [(0, .ptr 0 0), (1, .int .i64 d), (4, .ptr 1 0), (5, .ptr 2 0)]) [sdI t (↑(pos' t (SS.s y0.1)) : Int) (SS.n
 y0.1) (SS.ok y0.1), zJ, zO5] [0])] (.done (Ret.mk (.agg [.int .i64 5, .int .i64 0, .str [], .dsl 0 false [], .dsl 0 false []]) [sdI t (↑(pos' t (SS.s y0.1)) : Int) (SS.n y0.1) (SS.ok y0.1)] [0])) else .need [SoundC Tryz.prog 1 (blk
 Tryz.prog fSObj 0) (St.mk (mkTm 99 [(0, .ptr 0 0), (1, .int .i64 d), (4, .ptr 1 0), (5, .ptr 2 0)]) [sdI t (↑(pos' t (SS.s x)) : Int) (SS.n x) (SS.ok x), zJ, zO5] [0]) (Ex.exit 0) (St.mk (mkTm 99 [(0, .ptr 0 0), (1, .int .i64 d), (4, .ptr 1
 0), (5, .ptr 2 0)]) [sdI t (↑(pos' t (SS.s y0.1)) : Int) (SS.n y0.1) (SS.ok y0.1), zJ, nO5 (KL.ks y0.2) (KL.its y0.2)] [0])] (.done (Ret.mk (.agg [.int .i64 5, .int .i64 0, .str [], .dsl (List.length (KL.ks y0.2)) false (encs encStr (KL.ks
 y0.2)), .dsl (List.length (KL.its y0.2)) false (encs encJ (KL.its y0.2))]) [sdI t (↑(pos' t (SS.s y0.1)) : Int) (SS.n y0.1) (SS.ok y0.1)] [0]))) : T _) := (T.force_eq _).symm.trans (by kernel_rfl)
theorem sobj_ok {t : List UInt8} {d : Int} {val : SS → J × SS} (ht : t.length ≤ 500000) (hd : 1 ≤ d ∧ d ≤ 1000) (hV : SValOK t (d - 1) val) (n : Nat) (x : SS) (hI : SIn t x) (hok : x.ok = true) (hn : x.s.length + 1 ≤ n) :
  FnOK Tryz.prog fSObj [.ptr 0 0, .int .i64 d] [ssB t x] ⟨.agg (vwJ (.mk 5 0 [] (sObj val (n + 1) x ⟨[], []⟩).2.ks (sObj val (n + 1) x ⟨[], []⟩).2.its)), [ssB t (sObj val (n + 1) x ⟨[], []⟩).1], [0]⟩ := by
 refine fnOK_TL (E := { P := Tryz.prog, vw := vwA, res := resSO1 val, ls := lsSOb val (n + 1) t x d }) follows named (sobjT val (n + 1) t x d) (by simp) ?_
 have hl := so0_loop ht hd hV n x hI hok hn
 have hkl := sObj_kl val (n + 1) x ⟨[], []⟩ rfl
 simp only [WP_cond, T.WP, All, and_true]
 generalize sObj val (n + 1) x ⟨[], []⟩ = y at *
 obtain ⟨y1, ⟨ks, its⟩⟩ := y
 rintro z rfl
 unfold stSOe at hl
 refine ⟨trivial, fun h => ?_, fun h => ?_⟩
 ·simp only at h hl hkl
  rw [h] at hl
  have e : its = [] := List.isEmpty_iff.1 h
  subst e
  have e2 : ks = [] := List.eq_nil_of_length_eq_zero hkl
  subst e2
  exact ⟨.loopTo hl, ⟨rfl, rfl, by simp⟩⟩
 ·simp only at h hl
  rw [h] at hl
  exact ⟨.loopTo hl, ⟨rfl, rfl, by simp⟩⟩
end Go.Proofs.YtfncaghjfgnnhaaGreatDoor

namespace Go.Proofs.YtfncaghjfgnnhaaGreatDoor
open Go.RowKit
set_option maxRecDepth 100000
noncomputable def resRd : ResT := fun f vs hp => match vs, hp with
 | [.ptr 0 0, .str p], [some ([.str t, .int _ i, .bool bad, .int _ room], _)] =>
  bif Nat.beq f fTake then some ⟨(RS.mk (t.drop i.toNat) bad room).tk p, fun y => ⟨.bool y.1, [rsB t y.2], [0]⟩⟩
  else bif Nat.beq f fWant then some ⟨(RS.mk (t.drop i.toNat) bad room).want p, fun y => ⟨.tup [], [rsB t y], [0]⟩⟩
  else none
 | _, _ => none
theorem tk_ok {t : List UInt8} (p : List UInt8) (ht : t.length ≤ 1048576) (r : RS) (h : r.s <:+ t) : FnOK Tryz.prog fTake [.ptr 0 0, .str p] [rsB t r] ⟨.bool (r.tk p).1, [rsB t (r.tk p).2], [0]⟩ := take_ok p (by omega) h r.bad r.room
theorem wt_ok {t : List UInt8} (p : List UInt8) (ht : t.length ≤ 1048576) (r : RS) (h : r.s <:+ t) : FnOK Tryz.prog fWant [.ptr 0 0, .str p] [rsB t r] ⟨.tup [], [rsB t (r.want p)], [0]⟩ := want_ok p (by omega) h r.bad r.room
noncomputable def resPa (val : RS → J × RS) : ResT := fun f vs hp => match vs, hp with
 | [.ptr 0 0, .ptr 1 0, .ptr 2 0], [some ([_, _, _, _, .osl _ _ _ cs], _), some _, some ([.int _ d], _), some ([.str t, .int _ i, .bool bad, .int _ room], _)] =>
  bif Nat.beq f fVal1 then some ⟨listStep val ⟨t.drop i.toNat, bad, room⟩ (decL encJ cs), fun y => ⟨.tup [], [lsB y.2, prB 3, dpB d, rsB t y.1, none], [0, 3]⟩⟩ else none
 | vs, hp => resRd f vs hp
noncomputable def EPa (val : RS → J × RS) : Env := { P := Tryz.prog, vw := vwA, res := resPa val }
def stPa (t : List UInt8) (e : List UInt8) (L : List J) (d i : Int) (bad : Bool) (room : Int) : St := ⟨mkTm 21 [(0, .ptr 0 0), (1, .str e), (2, .fn fVal1 [.ptr 1 0, .ptr 2 0, .ptr 3 0])], [rdI t i bad room, lsB L, prB 0, dpB d], [0, 1]⟩
def nfPa : Ex → Kp := fun ex => match ex with
 | .normal => { keep := [0, 1, 2], wr := [0, 1] }
 | _ => { keep := [], wr := [0, 1] }
--FOLD vwJ rdI lsB prB dpB rsB
set_option maxRecDepth 100000 in
theorem partL0 (val : RS → J × RS) (t e : List UInt8) (L : List J) (d i : Int) (bad : Bool) (room : Int) : bodyT (EPa val) 4 nfPa (lp Tryz.prog fParts 0) (stPa t e L d i bad room) = (
 bif !bad then .bind (listStep val (RS.mk (List.drop (Int.toNat i) t) bad room) (decL encJ (encs encJ L))) fun y0 => .need [FnOK Tryz.prog 76 [.ptr 0 0, .ptr 1 0, .ptr 2 0] [lsB L, prB 3, dpB d, rdI t i bad room] (Ret.mk (.tup []) [lsB y0.2,
 prB 3, dpB d, rdI t (↑(pos' t (RS.s y0.1)) : Int) (RS.bad y0.1) (RS.room y0.1), none] [0, 3])] (.bind (RS.tk (RS.mk (List.drop (Int.toNat (↑(pos' t (RS.s y0.1)) : Int)) t) (RS.bad y0.1) (RS.room y0.1)) e) fun y1 => .need [FnOK Tryz.prog 73
 [.ptr 0 0, .str e] [rdI t (↑(pos' t (RS.s y0.1)) : Int) (RS.bad y0.1) (RS.room y0.1)] (Ret.mk (.bool y1.1) [rdI t (↑(pos' t (RS.s y1.2)) : Int) (RS.bad y1.2) (RS.room y1.2)] [0])] (bif y1.1 then .done (Ex.ret, St.mk (mkTm 21 []) [rdI t
 (↑(pos' t (RS.s y1.2)) : Int) (RS.bad y1.2) (RS.room y1.2), lsB y0.2, prB 0, dpB d] [0, 1]) else .bind (RS.want (RS.mk (List.drop (Int.toNat (↑(pos' t (RS.s y1.2)) : Int)) t) (RS.bad y1.2) (RS.room y1.2)) [(44 : UInt8)]) fun y2 => .need
 [FnOK Tryz.prog 97 [.ptr 0 0, .str [44]] [rdI t (↑(pos' t (RS.s y1.2)) : Int) (RS.bad y1.2) (RS.room y1.2)] (Ret.mk (.tup []) [rdI t (↑(pos' t (RS.s y2)) : Int) (RS.bad y2) (RS.room y2)] [0])] (.done (Ex.normal, St.mk (mkTm 21 [(0, .ptr 0
 0), (1, .str e), (2, .fn 76 [.ptr 1 0, .ptr 2 0, .ptr 3 0])]) [rdI t (↑(pos' t (RS.s y2)) : Int) (RS.bad y2) (RS.room y2), lsB y0.2, prB 0, dpB d] [0, 1])))) else .done (Ex.exit 0, St.mk (mkTm 21 []) [rdI t i bad room, lsB L, prB 0, dpB d]
 [0, 1]) : T _) := by kernel_rfl
theorem rs_eta' {t s : List UInt8} {bad : Bool} {room : Int} (h : s <:+ t) : RS.mk (t.drop ((pos' t s : Nat) : Int).toNat) bad room = ⟨s, bad, room⟩ := by rw [Int.toNat_natCast, drop_pos h]
theorem partsL_bad {α : Type} (e : List UInt8) (f : RS → α → RS × α) (n : Nat) (s : List UInt8) (room : Int) (a : α) : partsL e f n ⟨s, true, room⟩ a = (⟨s, true, room⟩, a) := by cases n <;> rfl
theorem partsL_on {α : Type} (e : List UInt8) (f : RS → α → RS × α) (n : Nat) {r : RS} (a : α) (h : r.bad = false) : partsL e f (n + 1) r a = bif ((f r a).1.tk e).1 then (((f r a).1.tk e).2, (f r a).2) else partsL e f n (((f r a).1.tk e).2.want [44]) (f r a).2 := by
 conv => lhs; unfold partsL
 rw [h]; rfl
theorem part_on {t e : List UInt8} {r r1 : RS} (hs : r.s <:+ t) (hI : RIn t r) (o1 : ROut r r1) (hb3 : ((r1.tk e).2.want [44]).bad = false) : RIn t ((r1.tk e).2.want [44]) ∧ ((r1.tk e).2.want [44]).s.length + 1 ≤ r.s.length := by
 have h4 := (want_on (r1.tk e).2 [44]).resolve_left (by rw [hb3]; simp)
 have l1 := (tk_suf r1 e).length_le
 have l2 := o1.suf.length_le
 have e4 : ((r1.tk e).2.want [44]).room = r1.room := rfl
 simp only [List.length_singleton] at h4
 have a1 := o1.lo
 have a2 := hI.lo
 have l0 := hs.length_le
 exact ⟨⟨((want_suf _ _).trans ((tk_suf _ e).trans o1.suf)).trans hs, by rw [e4]; omega, by rw [e4]; exact Int.le_trans o1.hi hI.hi⟩, by omega⟩
theorem partL_loop {t e : List UInt8} {d : Int} {val : RS → J × RS} (ht : t.length ≤ 1000000) (hd : 0 ≤ d ∧ d ≤ 1000) (hV : ValOK t (d + 1) val) : ∀ (n : Nat) (r : RS) (L : List J), r.s <:+ t → (r.bad = false → RIn t r ∧ L.length + r.s.length ≤ t.length + 1 ∧ r.s.length + 2 ≤ n) → 1 ≤ n →
  LoopTo Tryz.prog 4 (lp Tryz.prog fParts 0) (stPa t e L d (pos' t r.s : Nat) r.bad r.room) (bif (partsL e (listStep val) n r L).1.bad then .exit 0 else .ret) ⟨mkTm 21 [], [rsB t (partsL e (listStep val) n r L).1, lsB (partsL e (listStep val) n r L).2, prB 0, dpB d], [0, 1]⟩
 | 0, r, L, hs, hr, hn => by omega
 | n + 1, ⟨s, true, room⟩, L, hs, hr, hn => by
  have tree := partL0 val t e L d (pos' t s : Nat) true room
  rw [partsL_bad]
  refine loopT (E := EPa val) follows named tree ?_
  simp only [WP_cond, T.WP, All, and_true]
  exact ⟨fun h => by simp at h, fun _ => ⟨rfl, rfl⟩⟩
 | n + 1, ⟨s, false, room⟩, L, hs, hr, hn => by
  have tree := partL0 val t e L d (pos' t s : Nat) false room
  rw [rs_eta' hs, layJ.decL] at tree
  obtain ⟨hI, hL, hn2⟩ := hr rfl
  have o1 : ROut ⟨s, false, room⟩ (listStep val ⟨s, false, room⟩ L).1 := hV.out _
  have c1 := val1_ok hV hd _ hI L (by omega)
  rw [partsL_on _ _ _ _ rfl]
  have hlen : (listStep val ⟨s, false, room⟩ L).2.length = L.length + 1 := by simp [listStep]
  generalize listStep val ⟨s, false, room⟩ L = y1 at *
  obtain ⟨r1, L1⟩ := y1
  have s1 : r1.s <:+ t := o1.suf.trans hs
  have s2 : (r1.tk e).2.s <:+ t := (tk_suf _ e).trans s1
  have s3 : ((r1.tk e).2.want [44]).s <:+ t := (want_suf _ _).trans s2
  have c2 := tk_ok e (by omega) r1 s1
  have c3 := wt_ok [44] (by omega) (r1.tk e).2 s2
  cases hk : (r1.tk e).1 with
  | true =>
   have hb2 : (r1.tk e).2.bad = false := (tkB_len hk).2
   refine loopT (E := EPa val) follows named tree ?_
   simp only [WP_cond, T.WP, All, and_true, cond_true, hb2, cond_false]
   refine ⟨fun _ => ?_, fun h => by simp at h⟩
   rintro y rfl
   refine ⟨c1, ?_⟩
   simp only [rs_eta s1]
   rintro y rfl
   refine ⟨c2, fun _ => ⟨rfl, ?_⟩, fun h => by rw [hk] at h; cases h⟩
   simp only [rsB, hb2]
  | false =>
   simp only [cond_false]
   have ih := partL_loop (e := e) ht hd hV n ((r1.tk e).2.want [44]) L1 s3 (fun hb3 => by
    obtain ⟨q1, q2⟩ := part_on hs hI o1 hb3
    simp only at hlen q2 hL hn2
    exact ⟨q1, by omega, by omega⟩) (by omega)
   refine loopT (E := EPa val) follows named tree ?_
   simp only [WP_cond, T.WP, All, and_true]
   refine ⟨fun _ => ?_, fun h => by simp at h⟩
   rintro y rfl
   refine ⟨c1, ?_⟩
   simp only [rs_eta s1]
   rintro y rfl
   refine ⟨c2, (fun h => by rw [hk] at h; cases h), fun _ => ?_⟩
   simp only [rs_eta s2]
   rintro y rfl
   exact ⟨c3, ih⟩
noncomputable def lsPa (e : List UInt8) (val : RS → J × RS) : Nat → St → Option LRes := fun id s => match id, s.hp with
 | 0, [some ([.str t, .int _ i, .bool bad, .int _ room], _), some ([_, _, _, _, .osl _ _ _ cs], _), some _, some ([.int _ d], _)] =>
  some ⟨partsL e (listStep val) ((t.drop i.toNat).length + 2) ⟨t.drop i.toNat, bad, room⟩ (decL encJ cs), fun y => .two { keep := [0, 1, 2], wr := [0, 1] } (stPa t e (decL encJ cs) d i bad room) y.1.bad (.exit 0) ⟨mkTm 21 [], [rsB t y.1, lsB y.2, prB 0, dpB d], [0, 1]⟩ .ret ⟨mkTm 21 [], [rsB t y.1, lsB y.2, prB 0, dpB d], [0, 1]⟩⟩
 | _, _ => none
set_option maxRecDepth 100000 in
theorem partsT (val : RS → J × RS) (t e : List UInt8) (L : List J) (d i : Int) (bad : Bool) (room : Int) : fnT { P := Tryz.prog, vw := vwA, res := resPa val, ls := lsPa e val } 0 fParts [.ptr 0 0, .str e, .fn fVal1 [.ptr 1 0, .ptr 2 0, .ptr 3 0]] [rdI t i bad room, lsB L, prB 0, dpB d] = (
 .bind (RS.tk (RS.mk (List.drop (Int.toNat i) t) bad room) e) fun y0 => .need [FnOK Tryz.prog 73 [.ptr 0 0, .str e] [rdI t i bad room] (Ret.mk (.bool y0.1) [rdI t (↑(pos' t (RS.s y0.2)) : Int) (RS.bad y0.2) (RS.room y0.2)] [0])] (bif y0.1
 then .done (Ret.mk (.tup []) [rdI t (↑(pos' t (RS.s y0.2)) : Int) (RS.bad y0.2) (RS.room y0.2), lsB L, prB 0, dpB d] [0]) else .bind (partsL e (listStep val) (List.length (List.drop (Int.toNat (↑(pos' t (RS.s y0.2)) : Int)) t) + 2) (RS.mk
 (List.drop (Int.toNat (↑(pos' t (RS.s y0.2)) : Int)) t) (RS.bad y0.2) (RS.room y0.2)) (decL encJ (encs encJ L))) fun y1 => .need [St.mk (mkTm 21 [(0, .ptr 0 0), (1, .str e), (2, .fn 76 [.ptr 1 0, .ptr 2 0, .ptr 3 0])]) [rdI t (↑(pos' t
 (RS.s y0.2)) : Int) (RS.bad y0.2) (RS.room y0.2), lsB L, prB 0, dpB d] [0, 1] = St.mk (mkTm 21 [(0, .ptr 0 0), (1, .str e), (2, .fn 76 [.ptr 1 0, .ptr 2 0, .ptr 3 0])]) [rdI t (↑(pos' t (RS.s y0.2)) : Int) (RS.bad y0.2) (RS.room y0.2), lsB
 (decL encJ (encs encJ L)), prB 0, dpB d] [0, 1]] (bif RS.bad y1.1 then .need [SoundC Tryz.prog 4 (blk Tryz.prog fParts 0) (St.mk (mkTm 21 [(0, .ptr 0 0), (1, .str e), (2, .fn 76 [.ptr 1 0, .ptr 2 0, .ptr 3 0])]) [rdI t (↑(pos' t (RS.s
 y0.2)) : Int) (RS.bad y0.2) (RS.room y0.2), lsB (decL encJ (encs encJ L)), prB 0, dpB d] [0, 1]) (Ex.exit 0) (St.mk (mkTm 21 []) [rdI t (↑(pos' t (RS.s y1.1)) : Int) (RS.bad y1.1) (RS.room y1.1), lsB y1.2, prB 0, dpB d] [0, 1])] (.done
 (Ret.mk (.tup []) [rdI t (↑(pos' t (RS.s y1.1)) : Int) (RS.bad y1.1) (RS.room y1.1), lsB y1.2, prB 0, dpB d] [0, 1])) else .need [SoundC Tryz.prog 4 (blk Tryz.prog fParts 0) (St.mk (mkTm 21 [(0, .ptr 0 0), (1, .str e), (2, .fn 76 [.ptr 1 0,
 .ptr 2 0, .ptr 3 0])]) [rdI t (↑(pos' t (RS.s y0.2)) : Int) (RS.bad y0.2) (RS.room y0.2), lsB (decL encJ (encs encJ L)), prB 0, dpB d] [0, 1]) Ex.ret (St.mk (mkTm 21 []) [rdI t (↑(pos' t (RS.s y1.1)) : Int) (RS.bad y1.1) (RS.room y1.1), lsB
 y1.2, prB 0, dpB d] [0, 1])] (.done (Ret.mk (.tup []) [rdI t (↑(pos' t (RS.s y1.1)) : Int) (RS.bad y1.1) (RS.room y1.1), lsB y1.2, prB 0, dpB d] [0, 1])))) : T _) := (T.force_eq _).symm.trans (by kernel_rfl)
theorem partsList_ok {t e : List UInt8} {d : Int} {val : RS → J × RS} (ht : t.length ≤ 1000000) (hd : 0 ≤ d ∧ d ≤ 1000) (hV : ValOK t (d + 1) val) (r : RS) (hr : RIn t r) :
  FnOK Tryz.prog fParts [.ptr 0 0, .str e, .fn fVal1 [.ptr 1 0, .ptr 2 0, .ptr 3 0]] [rsB t r, lsB [], prB 0, dpB d] ⟨.tup [], [rsB t (partsE e (listStep val) r []).1, lsB (partsE e (listStep val) r []).2, prB 0, dpB d], [0, 1]⟩ := by
 refine fnOK_TL (E := { P := Tryz.prog, vw := vwA, res := resPa val, ls := lsPa e val }) follows named (partsT val t e [] d (pos' t r.s : Nat) r.bad r.room) (by simp) ?_
 simp only [WP_cond, T.WP, All, and_true, rs_eta hr.suf]
 rintro y rfl
 have s2 : (r.tk e).2.s <:+ t := (tk_suf r e).trans hr.suf
 have hI2 : RIn t (r.tk e).2 := ⟨s2, by have := hr.lo; have := (tk_suf r e).length_le; show 0 ≤ r.room + _; omega, hr.hi⟩
 have hl := partL_loop (e := e) ht hd hV ((r.tk e).2.s.length + 2) (r.tk e).2 [] s2 (fun _ => ⟨hI2, by have := s2.length_le; simp; omega, Nat.le_refl _⟩) (by omega)
 have e0 : partsE e (listStep val) r [] = bif (r.tk e).1 then ((r.tk e).2, []) else partsL e (listStep val) ((r.tk e).2.s.length + 2) (r.tk e).2 [] := rfl
 rw [e0]
 refine ⟨tk_ok e (by omega) r hr.suf, fun h => ?_, fun h => ?_⟩
 ·rw [h]; exact ⟨rfl, rfl, by simp⟩
 ·rw [h, rs_eta s2, Int.toNat_natCast, drop_pos s2, layJ.decL]
  simp only [cond_false]
  generalize partsL e (listStep val) ((r.tk e).2.s.length + 2) (r.tk e).2 [] = y at *
  rintro y rfl
  refine ⟨trivial, fun h1 => ?_, fun h1 => ?_⟩
  ·rw [h1] at hl; exact ⟨.loopTo hl, ⟨rfl, rfl, by simp⟩⟩
  ·rw [h1] at hl; exact ⟨.loopTo hl, ⟨rfl, rfl, by simp⟩⟩
def nwB (k : Int) : Option Blk := some ([.int .i64 k, .int .i64 0, .str [], .dsl 0 true [], .dsl 0 true []], tJ)
theorem partsList_nil {t e : List UInt8} {d : Int} {val : RS → J × RS} (ht : t.length ≤ 1000000) (hd : 0 ≤ d ∧ d ≤ 1000) (hV : ValOK t (d + 1) val) (r : RS) (hr : RIn t r) :
  FnOK Tryz.prog fParts [.ptr 0 0, .str e, .fn fVal1 [.ptr 1 0, .ptr 2 0, .ptr 3 0]] [rsB t r, nwB 4, prB 0, dpB d] ⟨.tup [], [rsB t (partsE e (listStep val) r []).1, lsB (partsE e (listStep val) r []).2, prB 0, dpB d], [0, 1]⟩ := by
 have p1 : PrepOK Tryz.prog [rsB t r, nwB 4, prB 0, dpB d] [rsB t r, some ([.int .i64 4, .int .i64 0, .str []] ++ .dsl 0 true [] :: [.osl tJ 0 false []], tJ), prB 0, dpB d] [1] :=
  prepNil (b := 1) (pr := [.int .i64 4, .int .i64 0, .str [], .dsl 0 true []]) (c := .dsl 0 true []) (po := []) (E := tJ) rfl rfl
 have p2 : PrepOK Tryz.prog [rsB t r, some ([.int .i64 4, .int .i64 0, .str []] ++ .dsl 0 true [] :: [.osl tJ 0 false []], tJ), prB 0, dpB d] [rsB t r, lsB [], prB 0, dpB d] [1] :=
  prepNil (b := 1) (pr := [.int .i64 4, .int .i64 0, .str []]) (c := .dsl 0 true []) (po := [.osl tJ 0 false []]) (E := 9) rfl rfl
 have h := (partsList_ok (e := e) ht hd hV r hr).prepIn p2 (fun b hb h => by
  simp at hb
  rcases hb with rfl | rfl
  ·exact ⟨_, rfl⟩
  ·exact ⟨_, rfl⟩)
 have h2 := h.prepIn p1 (fun b hb h => by
  have hb' := (mem_lows.1 hb).1
  simp at hb'
  rcases hb' with rfl | rfl | rfl
  ·exact ⟨_, rfl⟩
  ·exact ⟨_, rfl⟩
  ·exact ⟨_, rfl⟩)
 exact h2.more (by simp [mem_lows]) (by simp)
end Go.Proofs.YtfncaghjfgnnhaaGreatDoor

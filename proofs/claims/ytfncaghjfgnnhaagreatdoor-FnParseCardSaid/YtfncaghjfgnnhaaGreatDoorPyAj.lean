/-
  The program's ParseJson.
  Numbers are read back from their digits: plain.
  Texts are read back from their quotes: plain.
  A value is read back from its text: plain.
  A value is read back from its text: objects, and the whole.
  A value is read back from its text: the whole; and a text that is cut is no value's.
  How many values and how deep: the program's counts and the reference's.
  The reference's l01OK at right values.
  The reference's l01Text at any text.
  The reference's l01OK at any value.
  The reference's l01OK at values that can be read.
  The reference's ParseJson: trees.
  A text that is cut is no value's.
  What the program's reader of values takes, the reference's takes too, and the other way about: texts, numbers.
  Right values: what the reference's test says of them; values as the reference's reader makes them.
  The two readers agree: lists and objects.
-/
import Derived.Test.YtfncaghjfgnnhaaGreatDoorPyAi
import Derived.Lib.AtoiTie
import Derived.Sort.Walk0
namespace Go.Proofs.YtfncaghjfgnnhaaGreatDoor
open Go.RowKit
set_option maxRecDepth 100000
abbrev fParse : Nat := 25
abbrev fParseJson : Nat := 7
abbrev fIsTx : Nat := 24
def iVal0 (t : List UInt8) : J × RS := iVal 12 ⟨t, false, 400⟩
def iEnd (v : J × RS) : Bool := !v.2.bad && (skp v.2.s).isEmpty
def iPar (t : List UInt8) : J × Bool := bif iEnd (iVal0 t) then ((iVal0 t).1, true) else (J.zero, false)
noncomputable def resPar : ResT := fun f vs hp => match vs, hp with
 | [.ptr 0 0], [some ([.str t, .int _ i, .bool bad, .int _ room], _)] =>
  bif Nat.beq f fSkip then some ⟨skp (t.drop i.toNat), fun y => ⟨.tup [], [rsB t ⟨y, bad, room⟩], [0]⟩⟩ else none
 | [.ptr 0 0, .int _ _], [some ([.str t, .int _ _, .bool _, .int _ _], _)] => bif Nat.beq f fVal then some ⟨iVal0 t, fun y => ⟨.agg (vwJ y.1), [rsB t y.2], [0]⟩⟩ else none
 | [.str t], [] => bif Nat.beq f fParse then some ⟨iPar t, fun y => ⟨.tup [.agg (vwJ y.1), .bool y.2], [], []⟩⟩
  else bif Nat.beq f fIsTx then some ⟨decide (t.length ≤ 65536), fun y => ⟨.bool y, [], []⟩⟩ else none
 | _, _ => none
noncomputable def EPar : Env := { P := Tryz.prog, vw := vwA, res := resPar }
--FOLD vwJ rdI rsB
set_option maxRecDepth 100000 in
theorem parseT (t : List UInt8) : fnT EPar 0 fParse [.str t] [] = (
 .bind (iVal0 t) fun y0 => .need [FnOK (Env.P EPar) 47 [.ptr 0 0, .int .i64 0] [rdI t (0 : Int) false (400 : Int)] (Ret.mk (.agg (vwJ y0.1)) [rdI t (↑(pos' t (RS.s y0.2)) : Int) (RS.bad y0.2) (RS.room y0.2)] [0])] (.bind (skp (List.drop
 (Int.toNat (↑(pos' t (RS.s y0.2)) : Int)) t)) fun y1 => .need [FnOK (Env.P EPar) 48 [.ptr 0 0] [rdI t (↑(pos' t (RS.s y0.2)) : Int) (RS.bad y0.2) (RS.room y0.2)] (Ret.mk (.tup []) [rdI t (↑(pos' t (RS.s (RS.mk y1 (RS.bad y0.2) (RS.room
 y0.2)))) : Int) (RS.bad (RS.mk y1 (RS.bad y0.2) (RS.room y0.2))) (RS.room (RS.mk y1 (RS.bad y0.2) (RS.room y0.2)))] [0])] (bif RS.bad (RS.mk y1 (RS.bad y0.2) (RS.room y0.2)) then .done (Ret.mk (.tup [.agg [.int .i64 0, .int .i64 0, .str [],
 .dsl 0 false [], .dsl 0 false []], .bool false]) [] []) else bif decide ((↑(pos' t (RS.s (RS.mk y1 (RS.bad y0.2) (RS.room y0.2)))) : Int) < (↑t.length : Int)) then .done (Ret.mk (.tup [.agg [.int .i64 0, .int .i64 0, .str [], .dsl 0 false
 [], .dsl 0 false []], .bool false]) [] []) else .done (Ret.mk (.tup [.agg (vwJ y0.1), .bool true]) [] []))) : T _) := (T.force_eq _).symm.trans (by kernel_rfl)
set_option maxRecDepth 100000 in
theorem isTxT (t : List UInt8) : fnT EPar 0 fIsTx [.str t] [] = (
 .done (Ret.mk (.bool (decide ((↑t.length : Int) ≤ 65536))) [] []) : T _) := (T.force_eq _).symm.trans (by kernel_rfl)
set_option maxRecDepth 100000 in
theorem parseJT (t : List UInt8) : fnT EPar 0 fParseJson [.str t] [] = (
 .bind (decide (t.length ≤ 65536)) fun y0 => .need [FnOK (Env.P EPar) 24 [.str t] [] (Ret.mk (.bool y0) [] [])] (bif !y0 then .done (Ret.mk (.tup [.agg [.int .i64 0, .int .i64 0, .str [], .dsl 0 false [], .dsl 0 false []], .int .i64 2]) []
 []) else .bind (iPar t) fun y1 => .need [FnOK (Env.P EPar) 25 [.str t] [] (Ret.mk (.tup [.agg (vwJ y1.1), .bool y1.2]) [] [])] (bif !y1.2 then .done (Ret.mk (.tup [.agg [.int .i64 0, .int .i64 0, .str [], .dsl 0 false [], .dsl 0 false []],
 .int .i64 3]) [] []) else .done (Ret.mk (.tup [.agg (vwJ y1.1), .int .i64 0]) [] []))) : T _) := (T.force_eq _).symm.trans (by kernel_rfl)
theorem isTx_ok (t : List UInt8) : FnOK Tryz.prog fIsTx [.str t] [] ⟨.bool (decide (t.length ≤ 65536)), [], []⟩ := by
 refine fnOK_TL (E := EPar) follows named (isTxT t) (by simp) ?_
 simp only [T.WP]
 have e : decide ((t.length : Int) ≤ 65536) = decide (t.length ≤ 65536) := decide_eq_decide.2 (by omega)
 rw [e]
 exact ⟨rfl, rfl, by simp⟩
theorem iVal0_suf (t : List UInt8) : (iVal0 t).2.s <:+ t := (iVal_out 12 ⟨t, false, 400⟩).suf
theorem parse_ok (t : List UInt8) (ht : t.length ≤ 65536) : FnOK Tryz.prog fParse [.str t] [] ⟨.tup [.agg (vwJ (iPar t).1), .bool (iPar t).2], [], []⟩ := by
 refine fnOK_TL (E := EPar) follows named (parseT t) (by simp) ?_
 simp only [WP_cond, T.WP, All, decide_eq_true_eq, decide_eq_false_iff_not, and_true]
 have hv := (value_ok (t := t) (by omega) 12 0 (by omega) rfl).run ⟨t, false, 400⟩ ⟨List.suffix_refl _, by show 0 ≤ (400 : Int) + 2 * ((t.length : Int) - t.length); omega, by show (400 : Int) ≤ 400; omega⟩
 have hs := iVal0_suf t
 have e0 : rdI t (0 : Int) false 400 = rsB t ⟨t, false, 400⟩ := by
  unfold rsB pos'; simp
 rintro y rfl
 rw [e0]
 refine ⟨hv, ?_⟩
 rw [Int.toNat_natCast, drop_pos hs]
 rintro y rfl
 have ec : iPar t = bif !(iVal0 t).2.bad && (skp (iVal0 t).2.s).isEmpty then ((iVal0 t).1, true) else (J.zero, false) := rfl
 have hk : skp (iVal0 t).2.s <:+ t := skp_suf hs
 refine ⟨skip_ok (by omega) hs _ _, fun h => ?_, fun h => ⟨fun h2 => ?_, fun h2 => ?_⟩⟩
 ·rw [ec, h]; exact ⟨rfl, rfl, by simp⟩
 ·have : (skp (iVal0 t).2.s).isEmpty = false := by
   cases hh : skp (iVal0 t).2.s with
   | nil => rw [hh] at h2; unfold pos' at h2; simp at h2
   | cons c s => rfl
  rw [ec, h, this]; exact ⟨rfl, rfl, by simp⟩
 ·have : (skp (iVal0 t).2.s).isEmpty = true := by
   have l := hk.length_le
   unfold pos' at h2
   exact List.isEmpty_iff.2 (List.eq_nil_of_length_eq_zero (by omega))
  rw [ec, h, this]; exact ⟨rfl, rfl, by simp⟩
def iPJ (t : List UInt8) : J × Int := bif decide (t.length ≤ 65536) then (bif (iPar t).2 then ((iPar t).1, 0) else (J.zero, 3)) else (J.zero, 2)
theorem parseJson_ok (t : List UInt8) : FnOK Tryz.prog fParseJson [.str t] [] ⟨.tup [.agg (vwJ (iPJ t).1), .int .i64 (iPJ t).2], [], []⟩ := by
 refine fnOK_TL (E := EPar) follows named (parseJT t) (by simp) ?_
 simp only [WP_cond, T.WP, All, and_true]
 rintro y rfl
 refine ⟨isTx_ok t, fun h => ?_, fun h => ?_⟩
 ·have h : decide (t.length ≤ 65536) = false := by simpa using h
  unfold iPJ; rw [h]; exact ⟨rfl, rfl, by simp⟩
 ·have h : decide (t.length ≤ 65536) = true := by simpa using h
  have ht : t.length ≤ 65536 := by simpa using h
  rintro y rfl
  refine ⟨parse_ok t ht, fun h1 => ?_, fun h1 => ?_⟩
  ·have h1 : (iPar t).2 = false := by simpa using h1
   unfold iPJ; rw [h, h1]; exact ⟨rfl, rfl, by simp⟩
  ·have h1 : (iPar t).2 = true := by simpa using h1
   unfold iPJ; rw [h, h1]; exact ⟨rfl, rfl, by simp⟩
end Go.Proofs.YtfncaghjfgnnhaaGreatDoor

namespace Go.Proofs.YtfncaghjfgnnhaaGreatDoor
open Go.RowKit
set_option maxRecDepth 100000
theorem decFrom_snoc (b : UInt8) (d : Nat) (hb : Lib.digitVal b = some d) : ∀ (l : List UInt8) (acc m : Nat), Lib.decFrom acc l = some m → Lib.decFrom acc (l ++ [b]) = some (m * 10 + d)
 | [], acc, m, h => by
  simp only [Lib.decFrom, Option.some.injEq] at h
  subst h
  simp [Lib.decFrom, hb]
 | c :: l, acc, m, h => by
  rw [List.cons_append]
  unfold Lib.decFrom at h ⊢
  cases hc : Lib.digitVal c with
  | none => rw [hc] at h; cases h
  | some v =>
   rw [hc] at h
   exact decFrom_snoc b d hb l _ m h
theorem dig_ok (u : Nat) (h : u < 10) : Lib.digitVal (UInt8.ofNat (48 + u)) = some u := by
 have : (UInt8.ofNat (48 + u)).toNat = 48 + u := by rw [UInt8.toNat_ofNat']; omega
 unfold Lib.digitVal
 rw [this, if_pos (by omega)]
 congr 1; omega
theorem decFrom_one (u : Nat) (hu : u < 10) : Lib.decFrom 0 [UInt8.ofNat (48 + u)] = some u := by
 unfold Lib.decFrom
 rw [dig_ok u hu]
 show Lib.decFrom (0 * 10 + u) [] = _
 simp [Lib.decFrom]
theorem decDigits_ok : ∀ (k u : Nat), u < 10 ^ (k + 1) → Lib.decFrom 0 (Lib.decDigits u) = some u ∧ (∀ c ∈ Lib.decDigits u, dgtI ((c.toNat : Nat) : Int) = true) ∧ 1 ≤ (Lib.decDigits u).length ∧ (Lib.decDigits u).length ≤ k + 1 := by
 intro k
 have hd : ∀ v, v < 10 → dgtI (((UInt8.ofNat (48 + v)).toNat : Nat) : Int) = true := fun v hv => by
  have : (UInt8.ofNat (48 + v)).toNat = 48 + v := by rw [UInt8.toNat_ofNat']; omega
  rw [this]
  unfold dgtI
  simp; omega
 induction k with
 | zero =>
  intro u h
  have hu : u < 10 := by simpa using h
  rw [Lib.decDigits, dif_pos hu]
  refine ⟨decFrom_one u hu, fun c hc => ?_, by simp, by simp⟩
  ·obtain rfl := List.mem_singleton.1 hc
   exact hd u hu
 | succ k ih =>
  intro u h
  rw [Lib.decDigits]
  by_cases hu : u < 10
  ·rw [dif_pos hu]
   refine ⟨decFrom_one u hu, fun c hc => ?_, by simp, by simp⟩
   ·obtain rfl := List.mem_singleton.1 hc
    exact hd u hu
  ·rw [dif_neg hu]
   obtain ⟨h1, h2, h3, h4⟩ := ih (u / 10) (by rw [Nat.pow_succ] at h; omega)
   refine ⟨?_, fun c hc => ?_, by simp, by simp; omega⟩
   ·rw [decFrom_snoc _ (u % 10) (dig_ok _ (by omega)) _ _ _ h1]
    congr 1; omega
   ·rcases List.mem_append.1 hc with hc | hc
    ·exact h2 c hc
    ·obtain rfl := List.mem_singleton.1 hc
     exact hd _ (by omega)
theorem nmC_dgt {c : UInt8} (h : dgtI ((c.toNat : Nat) : Int) = true) : nmC c = true := by unfold nmC; rw [h]; simp
theorem dgt_ne {c : UInt8} (h : dgtI ((c.toNat : Nat) : Int) = true) : c ≠ 45 ∧ c ≠ 43 := by
 unfold dgtI at h
 rw [Bool.and_eq_true, decide_eq_true_eq, decide_eq_true_eq] at h
 constructor
 ·rintro rfl
  have : (45 : UInt8).toNat = 45 := rfl
  omega
 ·rintro rfl
  have : (43 : UInt8).toNat = 43 := rfl
  omega
structure DgOK (n : Int) : Prop where
 atoi : Lib.atoi (dg n) = some n
 nm : ∀ c ∈ dg n, nmC c = true
 len : 1 ≤ (dg n).length ∧ (dg n).length ≤ 11
theorem dgOK (n : Int) (h : -1000000000 ≤ n ∧ n ≤ 1000000000) : DgOK n := by
 have e := itoa_dg n (by omega)
 unfold Lib.itoa at e
 split at e
 ·rename_i h0
  obtain ⟨h1, h2, h3, h4⟩ := decDigits_ok 9 n.natAbs (by omega)
  refine ⟨?_, fun c hc => ?_, ?_⟩
  ·rw [← e]
   have hne : (Lib.decDigits n.natAbs).isEmpty = false := by cases hh : Lib.decDigits n.natAbs with
    | nil => rw [hh] at h3; simp at h3
    | cons c s => rfl
   simp only [Lib.atoi, beq_self_eq_true, if_true, Lib.decNat, hne, h1, Bool.false_eq_true, if_false, Option.map_some, Option.some.injEq]
   omega
  ·rw [← e] at hc
   rcases List.mem_cons.1 hc with rfl | hc
   ·rfl
   ·exact nmC_dgt (h2 c hc)
  ·rw [← e, List.length_cons]; omega
 ·rename_i h0
  obtain ⟨h1, h2, h3, h4⟩ := decDigits_ok 9 n.toNat (by omega)
  refine ⟨?_, fun c hc => ?_, ?_⟩
  ·rw [← e]
   cases hh : Lib.decDigits n.toNat with
   | nil => rw [hh] at h3; simp at h3
   | cons c s =>
    rw [hh] at h1 h2
    have hc := dgt_ne (h2 c (by simp))
    simp only [Lib.atoi, beq_iff_eq, hc.1, hc.2, if_false, Lib.decNat, List.isEmpty_cons, h1, Bool.false_eq_true, Option.map_some, Option.some.injEq]
    omega
  ·rw [← e] at hc
   exact nmC_dgt (h2 c hc)
  ·rw [← e]; omega
theorem rdN_dg (n : Int) (h : -1000000000 ≤ n ∧ n ≤ 1000000000) : rdN (dg n) = (n, true) := by
 have hD := dgOK n h
 have ea : atoiV (dg n) = (n, true) := by
  unfold atoiV
  rw [Lib.atoiAll_short _ (by have := hD.len; omega), hD.atoi]
  rfl
 have hl : (trimP [45] (dg n)).length ≤ 18 := by
  have := hD.len
  unfold trimP
  split
  ·rw [List.length_drop]; omega
  ·omega
 unfold rdN
 rw [ea]
 simp only [itoa_dg n (by omega), beq_self_eq_true, Bool.and_true, decide_eq_true hl, cond_true]
def NoNm (s : List UInt8) : Prop := ∀ c t, s = c :: t → nmC c = false
theorem takeW_app {p : UInt8 → Bool} : ∀ (a b : List UInt8), (∀ c ∈ a, p c = true) → (∀ c t, b = c :: t → p c = false) → (a ++ b).takeWhile p = a ∧ (a ++ b).dropWhile p = b
 | [], b, _, hb => by
  cases b with
  | nil => exact ⟨rfl, rfl⟩
  | cons c t => simp [hb c t rfl]
 | c :: a, b, ha, hb => by
  obtain ⟨h1, h2⟩ := takeW_app a b (fun x hx => ha x (by simp [hx])) hb
  simp [ha c (by simp), h1, h2]
end Go.Proofs.YtfncaghjfgnnhaaGreatDoor

namespace Go.Proofs.YtfncaghjfgnnhaaGreatDoor
open Go.RowKit
set_option maxRecDepth 100000
theorem txtR_esc : ∀ (t W rest : List UInt8), txtR (escL t ++ 34 :: rest) W = some (W ++ t, !plainT (W ++ t), rest)
 | [], W, rest => by
  show txtR (34 :: rest) W = _
  rw [txtR_q, List.append_nil]
 | c :: t, W, rest => by
  have ih := txtR_esc t (W ++ [c]) rest
  rw [List.append_assoc, List.singleton_append] at ih
  rw [escL_cons, List.append_assoc]
  unfold escB
  by_cases h1 : c = 34
  ·subst h1
   rw [if_pos rfl]
   show txtR (92 :: 34 :: (escL t ++ 34 :: rest)) W = _
   rw [txtR_e2, if_pos (by decide), ih]
  ·by_cases h2 : c = 92
   ·subst h2
    rw [if_neg h1, if_pos rfl]
    show txtR (92 :: 92 :: (escL t ++ 34 :: rest)) W = _
    rw [txtR_e2, if_pos (by decide), ih]
   ·rw [if_neg h1, if_neg h2]
    show txtR (c :: (escL t ++ 34 :: rest)) W = _
    rw [txtR_o _ _ h1 h2, ih]
theorem txtE_esc (t rest : List UInt8) (h : plainT t = true) : txtE false (escL t ++ 34 :: rest) = (t, false, rest) := by
 unfold txtE
 simp only [cond_false, txtR_esc, List.nil_append, h, Bool.not_true, Option.getD_some]
theorem txtE_bad (s : List UInt8) : (txtE true s).2.1 = true := rfl
theorem skp_nb {c : UInt8} (s : List UInt8) (h : blkC c = false) : skp (c :: s) = c :: s := by unfold skp; rw [List.dropWhile_cons, h]; rfl
theorem pfx_ne {a c : UInt8} (p s : List UInt8) (h : a ≠ c) : pfx (a :: p) (c :: s) = false := by
 unfold pfx
 rw [List.length_cons, List.take_succ_cons, beq_eq_false_iff_ne]
 intro e
 exact h (List.cons.inj e).1.symm
theorem pfx_one (c : UInt8) (s : List UInt8) : pfx [c] (c :: s) = true := by simp [pfx]
theorem tk_yes {c : UInt8} (s : List UInt8) (m : Int) (h : blkC c = false) : (RS.mk (c :: s) false m).tk [c] = (true, ⟨s, false, m⟩) := by
 rw [tk_at (skp_nb s h), pfx_one]; rfl
theorem tk_no {a c : UInt8} (s : List UInt8) (m : Int) (h : blkC c = false) (hn : a ≠ c) : (RS.mk (c :: s) false m).tk [a] = (false, ⟨c :: s, false, m⟩) := by
 rw [tk_at (skp_nb s h), pfx_ne _ _ hn]; rfl
theorem tk_bad (p s : List UInt8) (m : Int) : (RS.mk s true m).tk p = (false, ⟨skp s, true, m⟩) := rfl
theorem want_yes {c : UInt8} (s : List UInt8) (m : Int) (h : blkC c = false) : (RS.mk (c :: s) false m).want [c] = ⟨s, false, m⟩ := by
 have e := tk_yes s m h
 unfold RS.tk at e
 unfold RS.want
 simp only [Prod.mk.injEq, RS.mk.injEq] at e
 simp only [e.1, e.2.1, Bool.not_true]
theorem want_no (r : RS) (p : List UInt8) (h : (r.tk p).1 = false) : (r.want p).bad = true := by
 have h : tkB p r.s r.bad = false := h
 show (!tkB p r.s r.bad) = true
 rw [h]; rfl
theorem want_bad (r : RS) (p : List UInt8) (h : r.bad = true) : (r.want p).bad = true := want_no r p (by unfold RS.tk tkB; rw [h]; rfl)
end Go.Proofs.YtfncaghjfgnnhaaGreatDoor

namespace Go.Proofs.YtfncaghjfgnnhaaGreatDoor
open Go.RowKit
set_option maxRecDepth 100000
theorem iValB_lst (k : Nat) (s : List UInt8) (m : Int) : iValB k (91 :: s) m = (.mk 4 0 [] [] (partsE [93] (listStep (iVal k)) ⟨s, false, m⟩ []).2, (partsE [93] (listStep (iVal k)) ⟨s, false, m⟩ []).1) := by
 unfold iValB wNull wTrue wFalse
 rw [pfx_ne _ _ (by decide), pfx_ne _ _ (by decide), pfx_ne _ _ (by decide), pfx_ne _ _ (by decide), pfx_one]
 rfl
theorem iValB_obj (k : Nat) (s : List UInt8) (m : Int) : iValB k (123 :: s) m = (objJ (partsE [125] (objStep (iVal k)) ⟨s, false, m⟩ ⟨[], []⟩).2, (partsE [125] (objStep (iVal k)) ⟨s, false, m⟩ ⟨[], []⟩).1) := by
 unfold iValB wNull wTrue wFalse
 rw [pfx_ne _ _ (by decide), pfx_ne _ _ (by decide), pfx_ne _ _ (by decide), pfx_ne _ _ (by decide), pfx_ne _ _ (by decide), pfx_one]
 rfl
theorem iValB_txt (k : Nat) (s : List UInt8) (m : Int) : iValB k (34 :: s) m = (.mk 3 0 (txtE false s).1 [] [], ⟨(txtE false s).2.2, (txtE false s).2.1, m⟩) := by
 unfold iValB wNull wTrue wFalse
 rw [pfx_ne _ _ (by decide), pfx_ne _ _ (by decide), pfx_ne _ _ (by decide), pfx_one]
 rfl
theorem iValB_num (k : Nat) (c : UInt8) (s : List UInt8) (m : Int) (h : nmC c = true) : iValB k (c :: s) m = (nmJ (c :: s), ⟨(c :: s).dropWhile nmC, nmB false (c :: s), m⟩) := by
 have ne : ∀ a : UInt8, nmC a = false → a ≠ c := fun a ha e => by rw [e, h] at ha; cases ha
 unfold iValB wNull wTrue wFalse
 rw [pfx_ne _ _ (ne _ (by decide)), pfx_ne _ _ (ne _ (by decide)), pfx_ne _ _ (ne _ (by decide)), pfx_ne _ _ (ne _ (by decide)), pfx_ne _ _ (ne _ (by decide)), pfx_ne _ _ (ne _ (by decide))]
 rfl
theorem nmC_blk {c : UInt8} (h : nmC c = true) : blkC c = false := by
 cases hb : blkC c with
 | false => rfl
 | true =>
  exfalso
  unfold blkC blkI at hb
  unfold nmC dgtI at h
  simp only [Bool.or_eq_true, beq_iff_eq, Bool.and_eq_true, decide_eq_true_eq] at hb h
  rcases h with rfl | h
  ·have : (45 : UInt8).toNat = 45 := rfl
   omega
  ·omega
inductive PHead : J → Prop where
 | null {n : Int} {t ks its} : PHead (.mk 0 n t ks its)
 | ff : PHead (.mk 1 0 [] [] [])
 | tt : PHead (.mk 1 1 [] [] [])
 | num {n : Int} (h : -1000000000 ≤ n ∧ n ≤ 1000000000) : PHead (.mk 2 n [] [] [])
 | txt {t : List UInt8} (h : plainT t = true) : PHead (.mk 3 0 t [] [])
 | lst {its : List J} : PHead (.mk 4 0 [] [] its)
 | obj {ks : List (List UInt8)} {its : List J} (hl : ks.length = its.length) (h : areK ks = true) : PHead (.mk 5 0 [] ks its)
theorem part_head {j : J} (h : partJ j = true) : (j = J.zero ∨ j.kind ≠ 0) ∧ PHead j := by
 obtain ⟨k, n, t, ks, its⟩ := j
 unfold partJ at h
 by_cases h0 : k = 0
 ·subst h0; simp at h; obtain ⟨⟨⟨rfl, rfl⟩, rfl⟩, rfl⟩ := h; exact ⟨.inl rfl, .null⟩
 refine ⟨.inr h0, ?_⟩
 by_cases h1 : k = 1
 ·subst h1; simp at h; obtain ⟨⟨⟨h, rfl⟩, rfl⟩, rfl⟩ := h
  have : n = 0 ∨ n = 1 := by omega
  rcases this with rfl | rfl
  ·exact .ff
  ·exact .tt
 by_cases h2 : k = 2
 ·subst h2; simp at h; obtain ⟨⟨⟨h, rfl⟩, rfl⟩, rfl⟩ := h; exact .num h
 by_cases h3 : k = 3
 ·subst h3; simp at h; obtain ⟨⟨⟨rfl, h⟩, rfl⟩, rfl⟩ := h; exact .txt h
 by_cases h4 : k = 4
 ·subst h4; simp at h; obtain ⟨⟨rfl, rfl⟩, rfl⟩ := h; exact .lst
 by_cases h5 : k = 5
 ·subst h5; simp at h; obtain ⟨⟨⟨rfl, rfl⟩, he⟩, h⟩ := h; exact .obj he h
 ·simp [h0, h1, h2, h3, h4, h5] at h
theorem dg_cons (n : Int) (h : -1000000000 ≤ n ∧ n ≤ 1000000000) : ∃ c s, dg n = c :: s ∧ nmC c = true := by
 have hD := dgOK n h
 cases e : dg n with
 | nil => have := hD.len; rw [e] at this; simp at this
 | cons c s => exact ⟨c, s, rfl, hD.nm c (by rw [e]; simp)⟩
theorem pj_num (n : Int) : pj (.mk 2 n [] [] []) = dg n := by rw [pj]; rfl
theorem pj_txt (t : List UInt8) : pj (.mk 3 0 t [] []) = quo t := by rw [pj]; rfl
theorem pj_lst (its : List J) : pj (.mk 4 0 [] [] its) = 91 :: (pjs false true [] its ++ [93]) := by rw [pj]; rfl
theorem pj_obj (ks : List (List UInt8)) (its : List J) : pj (.mk 5 0 [] ks its) = 123 :: (pjs true true ks its ++ [125]) := by rw [pj]; rfl
theorem pj_null (n : Int) (t ks its) : pj (.mk 0 n t ks its) = [110, 117, 108, 108] := by rw [pj]; rfl
theorem pj_ff : pj (.mk 1 0 [] [] []) = [102, 97, 108, 115, 101] := by rw [pj]; rfl
theorem pj_tt : pj (.mk 1 1 [] [] []) = [116, 114, 117, 101] := by rw [pj]; rfl
theorem PHead.cons {j : J} (h : PHead j) : ∃ c s, pj j = c :: s ∧ blkC c = false ∧ (93 : UInt8) ≠ c ∧ (125 : UInt8) ≠ c := by
 cases h with
 | null => exact ⟨_, _, pj_null .., by decide⟩
 | ff => exact ⟨_, _, pj_ff, by decide⟩
 | tt => exact ⟨_, _, pj_tt, by decide⟩
 | num h =>
  obtain ⟨c, s, e, hc⟩ := dg_cons _ h
  exact ⟨c, s, (pj_num _).trans e, nmC_blk hc, fun e => (by subst e; cases hc), fun e => (by subst e; cases hc)⟩
 | txt h => exact ⟨_, _, pj_txt _, by decide⟩
 | lst => exact ⟨_, _, pj_lst _, by decide⟩
 | obj _ h => exact ⟨_, _, pj_obj _ _, by decide⟩
theorem iVal_cons (k : Nat) (c : UInt8) (s : List UInt8) (room : Int) (hc : blkC c = false) (h : 0 ≤ room - 1) : iVal (k + 1) ⟨c :: s, false, room⟩ = iValB k (c :: s) (room - 1) := by
 rw [iVal_go k _ rfl (by show ¬ room - 1 < 0; omega) (by show (skp (c :: s)).isEmpty = false; rw [skp_nb s hc]; rfl)]
 show iValB k (skp (c :: s)) (room - 1) = _
 rw [skp_nb s hc]
def RT (k : Nat) : Prop := ∀ (j : J) (d room : Int) (rest : List UInt8), 0 ≤ d → d + (k : Nat) = 12 → 0 ≤ room → (rightJ j d room).1 = true → NoNm rest → iVal k ⟨pj j ++ rest, false, room⟩ = (j, ⟨rest, false, (rightJ j d room).2⟩)
theorem pjs_one (o : Bool) (ks : List (List UInt8)) (y : J) (ys : List J) : pjs o false ks (y :: ys) = 44 :: (prt o (ks.headD []) y ++ pjs o false ks.tail ys) := by
 rw [pjs]; unfold prt; cases o <;> simp
theorem pjs_fst (o : Bool) (ks : List (List UInt8)) (y : J) (ys : List J) : pjs o true ks (y :: ys) = prt o (ks.headD []) y ++ pjs o false ks.tail ys := by
 rw [pjs]; unfold prt; cases o <;> simp
theorem prt_f (ks : List UInt8) (y : J) : prt false ks y = pj y := by unfold prt; simp
theorem noNm_cons {c : UInt8} (s : List UInt8) (h : nmC c = false) : NoNm (c :: s) := fun c' t e => by cases e; exact h
theorem noNm_pjs (o : Bool) (ks : List (List UInt8)) (xs : List J) (c : UInt8) (rest : List UInt8) (h : nmC c = false) : NoNm (pjs o false ks xs ++ c :: rest) := by
 cases xs with
 | nil => rw [pjs]; exact noNm_cons rest h
 | cons y ys => rw [pjs_one]; exact noNm_cons _ (by decide)
theorem rightJs_cons {x : J} {xs : List J} {d m : Int} (h : (rightJs (x :: xs) d m).1 = true) : (rightJ x d m).1 = true ∧ rightJs (x :: xs) d m = rightJs xs d (rightJ x d m).2 := by
 rw [rightJs] at h ⊢
 split at h
 ·rename_i hc
  exact ⟨hc, by rw [if_pos hc]⟩
 ·cases h
theorem rt_list {k : Nat} (IH : RT k) {d : Int} (hd : 0 ≤ d) (hk : d + (k : Nat) = 12) (rest : List UInt8) : ∀ (xs : List J) (x : J) (m : Int) (acc : List J) (n : Nat), 0 ≤ m → (rightJs (x :: xs) d m).1 = true → xs.length + 1 ≤ n →
  partsL [93] (listStep (iVal k)) n ⟨pj x ++ (pjs false false [] xs ++ 93 :: rest), false, m⟩ acc = (⟨rest, false, (rightJs (x :: xs) d m).2⟩, acc ++ x :: xs)
 | xs, x, m, acc, 0, hm, hr, hn => by omega
 | xs, x, m, acc, n + 1, hm, hr, hn => by
  obtain ⟨h1, h2⟩ := rightJs_cons hr
  rw [h2] at hr ⊢
  have hroom := rightJ_room x d m hm h1
  rw [partsL_on _ _ _ _ rfl]
  have e := IH x d m (pjs false false [] xs ++ 93 :: rest) hd hk hm h1 (noNm_pjs _ _ _ _ _ (by decide))
  have es : listStep (iVal k) ⟨pj x ++ (pjs false false [] xs ++ 93 :: rest), false, m⟩ acc = (⟨pjs false false [] xs ++ 93 :: rest, false, (rightJ x d m).2⟩, acc ++ [x]) := by
   unfold listStep; rw [e]
  rw [es]
  cases xs with
  | nil =>
   show (bif (RS.tk ⟨93 :: rest, false, _⟩ [93]).1 then _ else _) = _
   rw [pjs, List.nil_append, tk_yes _ _ (by decide)]
   simp only [cond_true, rightJs]
  | cons y ys =>
   rw [pjs_one, List.cons_append, prt_f, tk_no _ _ (by decide) (by decide)]
   simp only [cond_false]
   rw [want_yes _ _ (by decide), List.append_assoc]
   have := rt_list IH hd hk rest ys y (rightJ x d m).2 (acc ++ [x]) n hroom.1 hr (by simp at hn; omega)
   rw [show ([] : List (List UInt8)).tail = [] from rfl, this, List.append_assoc]
   rfl
end Go.Proofs.YtfncaghjfgnnhaaGreatDoor

namespace Go.Proofs.YtfncaghjfgnnhaaGreatDoor
open Go.RowKit
set_option maxRecDepth 100000
theorem kvGet_none : ∀ (m : List (List UInt8 × J)) (k : List UInt8), (∀ x ∈ m, x.1 ≠ k) → kvGet k m = none
 | [], k, _ => rfl
 | (k', j) :: m, k, h => by
  unfold kvGet
  have : (k == k') = false := beq_eq_false_iff_ne.2 (fun e => h (k', j) (by simp) e.symm)
  rw [this]
  exact kvGet_none m k (fun x hx => h x (by simp [hx]))
theorem kvPut_new : ∀ (m : List (List UInt8 × J)) (k : List UInt8) (j : J), (∀ x ∈ m, x.1 ≠ k) → kvPut k j m = m ++ [(k, j)]
 | [], k, j, _ => rfl
 | (k', j') :: m, k, j, h => by
  unfold kvPut
  have : (k == k') = false := beq_eq_false_iff_ne.2 (fun e => h (k', j') (by simp) e.symm)
  rw [this]
  simp only [Bool.false_eq_true, if_false]
  rw [kvPut_new m k j (fun x hx => h x (by simp [hx]))]
  rfl
theorem zip_key {K : List (List UInt8)} {L : List J} {k : List UInt8} (h : k ∉ K) : ∀ x ∈ K.zip L, x.1 ≠ k := fun _ hx e => h (e ▸ (List.of_mem_zip hx).1)
theorem kv_items : ∀ (ks : List (List UInt8)) (its : List J), ks.length = its.length → ks.Nodup → (ks.map fun k => (kvGet k (ks.zip its)).getD J.zero) = its
 | [], [], _, _ => rfl
 | [], _ :: _, h, _ => by simp at h
 | _ :: _, [], h, _ => by simp at h
 | k :: ks, j :: its, h, hn => by
  rw [List.nodup_cons] at hn
  have ih := kv_items ks its (by simpa using h) hn.2
  rw [List.map_cons, List.zip_cons_cons]
  congr 1
  ·unfold kvGet; simp
  ·conv => rhs; rw [← ih]
   refine List.map_congr_left fun k' hk' => ?_
   conv => lhs; unfold kvGet
   have : (k' == k) = false := beq_eq_false_iff_ne.2 (fun e => hn.1 (e ▸ hk'))
   rw [this]; rfl
theorem areK_pw : ∀ {ks : List (List UInt8)}, areK ks = true → ks.Pairwise (· < ·)
 | [], _ => .nil
 | [k], _ => by simp
 | k :: k' :: t, h => by
  rw [areK, Bool.and_eq_true, Bool.and_eq_true] at h
  have ih := areK_pw h.2
  have h1 : k < k' := by have := h.1.2; rw [bytesLess_eq, decide_eq_true_eq] at this; exact this
  refine List.pairwise_cons.2 ⟨fun x hx => ?_, ih⟩
  rcases List.mem_cons.1 hx with rfl | hx
  ·exact h1
  ·exact List.lt_trans h1 ((List.pairwise_cons.1 ih).1 x hx)
theorem areK_nodup {ks : List (List UInt8)} (h : areK ks = true) : ks.Nodup := by
 refine (areK_pw h).imp fun {a b} hab e => ?_
 subst e
 exact List.lt_irrefl a hab
theorem areK_srt {ks : List (List UInt8)} (h : areK ks = true) : srt ks = ks := by
 unfold srt
 refine List.mergeSort_of_pairwise ((areK_pw h).imp fun {a b} hab => ?_)
 rw [decide_eq_true_eq]
 exact List.le_of_lt hab
theorem prt_t (key : List UInt8) (x : J) (rest : List UInt8) : prt true key x ++ rest = 34 :: (escL key ++ 34 :: (58 :: (pj x ++ rest))) := by
 unfold prt quo; simp
theorem objStep_go {k : Nat} (IH : RT k) {d : Int} (hd : 0 ≤ d) (hk : d + (k : Nat) = 12) (key : List UInt8) (x : J) (m : Int) (s : List UInt8) (a : KM) (hp : plainT key = true) (hm : 0 ≤ m) (h1 : (rightJ x d m).1 = true) (hs : NoNm s) (hn : ∀ y ∈ a.m, y.1 ≠ key) :
  objStep (iVal k) ⟨prt true key x ++ s, false, m⟩ a = (⟨s, false, (rightJ x d m).2⟩, ⟨a.ks ++ [key], a.m ++ [(key, x)]⟩) := by
 unfold objStep
 rw [prt_t, want_yes _ _ (by decide)]
 simp only [txtE_esc _ _ hp]
 rw [want_yes _ _ (by decide)]
 rw [IH x d m s hd hk hm h1 hs]
 simp only [kvGet_none _ _ hn, kvPut_new _ _ _ hn, Option.isSome_none, Bool.or_false]
theorem rt_obj {k : Nat} (IH : RT k) {d : Int} (hd : 0 ≤ d) (hk : d + (k : Nat) = 12) (rest : List UInt8) : ∀ (xs : List J) (x : J) (key : List UInt8) (ks : List (List UInt8)) (m : Int) (K : List (List UInt8)) (L : List J) (n : Nat), 0 ≤ m → (rightJs (x :: xs) d m).1 = true → xs.length + 1 ≤ n →
  ks.length = xs.length → K.length = L.length → (K ++ key :: ks).Nodup → (∀ s ∈ key :: ks, plainT s = true) →
  partsL [125] (objStep (iVal k)) n ⟨prt true key x ++ (pjs true false ks xs ++ 125 :: rest), false, m⟩ ⟨K, K.zip L⟩ = (⟨rest, false, (rightJs (x :: xs) d m).2⟩, ⟨K ++ key :: ks, (K ++ key :: ks).zip (L ++ x :: xs)⟩)
 | xs, x, key, ks, m, K, L, 0, hm, hr, hn, _, _, _, _ => by omega
 | xs, x, key, ks, m, K, L, n + 1, hm, hr, hn, hl, hKL, hnd, hp => by
  obtain ⟨h1, h2⟩ := rightJs_cons hr
  rw [h2] at hr ⊢
  have hroom := rightJ_room x d m hm h1
  rw [partsL_on _ _ _ _ rfl]
  have hK : key ∉ K := by
   rw [List.nodup_append] at hnd
   exact fun h => hnd.2.2 key h key (by simp) rfl
  have es := objStep_go IH hd hk key x m (pjs true false ks xs ++ 125 :: rest) ⟨K, K.zip L⟩ (hp key (by simp)) hm h1 (noNm_pjs _ _ _ _ _ (by decide)) (zip_key hK)
  rw [es]
  have ez : K.zip L ++ [(key, x)] = (K ++ [key]).zip (L ++ [x]) := by rw [List.zip_append hKL]; rfl
  cases xs with
  | nil =>
   have : ks = [] := List.eq_nil_of_length_eq_zero hl
   subst this
   show (bif (RS.tk ⟨pjs true false [] [] ++ 125 :: rest, false, _⟩ [125]).1 then _ else _) = _
   rw [pjs, List.nil_append, tk_yes _ _ (by decide)]
   simp only [cond_true, rightJs, ez]
  | cons y ys =>
   cases ks with
   | nil => simp at hl
   | cons key' ks =>
   rw [pjs_one, List.cons_append, tk_no _ _ (by decide) (by decide)]
   simp only [cond_false, List.headD_cons, List.tail_cons]
   rw [want_yes _ _ (by decide), List.append_assoc, ez]
   have e1 : K ++ key :: key' :: ks = (K ++ [key]) ++ key' :: ks := by simp
   have e2 : L ++ x :: y :: ys = (L ++ [x]) ++ y :: ys := by simp
   rw [e1, e2]
   rw [e1] at hnd
   exact rt_obj IH hd hk rest ys y key' ks (rightJ x d m).2 (K ++ [key]) (L ++ [x]) n hroom.1 hr (by simp at hn; omega) (by simpa using hl) (by simp [hKL]) hnd (fun s hs => hp s (by simp at hs ⊢; exact .inr hs))
theorem pjs_ge (o : Bool) : ∀ (xs : List J) (a : Bool) (ks : List (List UInt8)), xs.length ≤ (pjs o a ks xs).length + 1
 | [], a, ks => by simp
 | x :: xs, a, ks => by
  have : ∀ (xs : List J) (ks : List (List UInt8)), xs.length ≤ (pjs o false ks xs).length := by
   intro xs
   induction xs with
   | nil => intro ks; simp
   | cons y ys ih =>
    intro ks
    have := ih ks.tail
    rw [pjs_one]; simp only [List.length_cons, List.length_append]; omega
  have h := this xs ks.tail
  rw [pjs]
  simp only [List.length_cons, List.length_append]; omega
end Go.Proofs.YtfncaghjfgnnhaaGreatDoor

namespace Go.Proofs.YtfncaghjfgnnhaaGreatDoor
open Go.RowKit
set_option maxRecDepth 100000
theorem rightJ_in {j : J} {d room : Int} (h : (rightJ j d room).1 = true) : 0 ≤ room - 1 ∧ d < 12 ∧ partJ j = true ∧ rightJ j d room = rightJs j.items (d + 1) (room - 1) := by
 rw [rightJ_eq] at h ⊢
 split at h
 ·cases h
 ·rename_i hc
  rw [if_neg hc]
  simp only [not_or, Bool.not_eq_false] at hc
  exact ⟨by omega, by omega, hc.2.2, rfl⟩
theorem rt : ∀ k, RT k
 | 0, j, d, room, rest, hd, hk, hr, h, hn => by
  have := rightJ_in h
  omega
 | k + 1, j, d, room, rest, hd, hk, hr, h, hn => by
  have IH := rt k
  obtain ⟨h1, h2, h3, h4⟩ := rightJ_in h
  obtain ⟨hz, hp⟩ := part_head h3
  obtain ⟨c, s, ec, hc, _⟩ := hp.cons
  have e0 : iVal (k + 1) ⟨pj j ++ rest, false, room⟩ = iValB k (pj j ++ rest) (room - 1) := by
   rw [ec, List.cons_append]
   exact iVal_cons k c _ room hc h1
  rw [e0, h4]
  rw [h4] at h
  cases hp with
  | null =>
   rcases hz with hz | hz
   ·rw [hz, show pj J.zero = [110, 117, 108, 108] from pj_null ..]
    show _ = (J.zero, RS.mk rest false (rightJs [] (d + 1) (room - 1)).2)
    rw [rightJs]; rfl
   ·exact absurd rfl hz
  | ff => rw [pj_ff]; show _ = (J.mk 1 0 [] [] [], RS.mk rest false (rightJs [] (d + 1) (room - 1)).2); rw [rightJs]; rfl
  | tt => rw [pj_tt]; show _ = (J.mk 1 1 [] [] [], RS.mk rest false (rightJs [] (d + 1) (room - 1)).2); rw [rightJs]; rfl
  | @num n hb =>
   show _ = (J.mk 2 n [] [] [], RS.mk rest false (rightJs [] (d + 1) (room - 1)).2)
   rw [rightJs, pj_num]
   obtain ⟨c, s, e, hcn⟩ := dg_cons n hb
   obtain ⟨t1, t2⟩ := takeW_app (p := nmC) (dg n) rest (dgOK n hb).nm hn
   have e1 : iValB k (dg n ++ rest) (room - 1) = (nmJ (dg n ++ rest), ⟨(dg n ++ rest).dropWhile nmC, nmB false (dg n ++ rest), room - 1⟩) := by
    rw [e, List.cons_append]; exact iValB_num k c _ _ hcn
   rw [e1]
   unfold nmJ nmB
   rw [t1, t2, rdN_dg n hb]
   have : inB n (-1000000000) 1000000000 = true := by unfold inB; simp; omega
   simp [this]
  | @txt t ht =>
   show _ = (J.mk 3 0 t [] [], RS.mk rest false (rightJs [] (d + 1) (room - 1)).2)
   rw [rightJs, pj_txt]
   have : quo t ++ rest = 34 :: (escL t ++ 34 :: rest) := by unfold quo; simp
   rw [this, iValB_txt, txtE_esc _ _ ht]
  | @lst its =>
   show _ = (J.mk 4 0 [] [] its, RS.mk rest false (rightJs its (d + 1) (room - 1)).2)
   rw [pj_lst, List.cons_append, iValB_lst]
   cases its with
   | nil =>
    rw [pjs, List.nil_append, List.singleton_append]
    unfold partsE
    rw [tk_yes _ _ (by decide)]
    simp only [cond_true, rightJs]
   | cons x xs =>
    have hg := pjs_ge false xs false []
    have ex : pjs false true [] (x :: xs) ++ [93] ++ rest = pj x ++ (pjs false false [] xs ++ 93 :: rest) := by
     rw [pjs_fst, prt_f]; simp
    rw [ex]
    obtain ⟨q1, q2⟩ := rightJs_cons h
    obtain ⟨_, _, q3, _⟩ := rightJ_in q1
    obtain ⟨c, s, ec, hc, hn93, _⟩ := (part_head q3).2.cons
    unfold partsE
    have et : (RS.mk (pj x ++ (pjs false false [] xs ++ 93 :: rest)) false (room - 1)).tk [93] = (false, ⟨pj x ++ (pjs false false [] xs ++ 93 :: rest), false, room - 1⟩) := by
     rw [ec, List.cons_append]; exact tk_no _ _ hc hn93
    rw [et]
    simp only [cond_false]
    have hl := rt_list IH (d := d + 1) (by omega) (by omega) rest xs x (room - 1) [] ((pj x ++ (pjs false false [] xs ++ 93 :: rest)).length + 2) h1 h (by simp only [List.length_append, List.length_cons]; omega)
    rw [hl]; rfl
  | @obj ks its hl hk2 =>
   show _ = (J.mk 5 0 [] ks its, RS.mk rest false (rightJs its (d + 1) (room - 1)).2)
   rw [pj_obj, List.cons_append, iValB_obj]
   cases its with
   | nil =>
    obtain rfl : ks = [] := List.eq_nil_of_length_eq_zero hl
    rw [pjs, List.nil_append, List.singleton_append]
    unfold partsE
    rw [tk_yes _ _ (by decide)]
    simp only [cond_true, rightJs]
    unfold objJ
    simp [srt]
   | cons x xs =>
    cases ks with
    | nil => simp at hl
    | cons key ks =>
    have hg := pjs_ge true xs false ks
    have ex : pjs true true (key :: ks) (x :: xs) ++ [125] ++ rest = prt true key x ++ (pjs true false ks xs ++ 125 :: rest) := by
     rw [pjs_fst]; simp
    rw [ex]
    unfold partsE
    have et : (RS.mk (prt true key x ++ (pjs true false ks xs ++ 125 :: rest)) false (room - 1)).tk [125] = (false, ⟨prt true key x ++ (pjs true false ks xs ++ 125 :: rest), false, room - 1⟩) := by
     rw [prt_t]; exact tk_no _ _ (by decide) (by decide)
    rw [et]
    simp only [cond_false]
    have hq := rt_obj IH (d := d + 1) (by omega) (by omega) rest xs x key ks (room - 1) [] [] ((prt true key x ++ (pjs true false ks xs ++ 125 :: rest)).length + 2) h1 h (by simp only [List.length_append, List.length_cons]; omega) (by simpa using hl) rfl (by simpa using areK_nodup hk2) (areK_mem hk2)
    rw [show (⟨[], []⟩ : KM) = ⟨[], ([] : List (List UInt8)).zip ([] : List J)⟩ from rfl, hq]
    simp only [List.nil_append]
    congr 1
    unfold objJ
    simp only [areK_srt hk2]
    rw [kv_items _ _ (by simpa using hl) (areK_nodup hk2)]
end Go.Proofs.YtfncaghjfgnnhaaGreatDoor

namespace Go.Proofs.YtfncaghjfgnnhaaGreatDoor
open Go.RowKit
set_option maxRecDepth 100000
theorem j_drop {L : List J} {i : Nat} (h : i < L.length) : L.drop i = L.getD i J.zero :: L.drop (i + 1) := by
 rw [List.getD_eq_getElem?_getD, List.getElem?_eq_getElem h]; exact List.drop_eq_getElem_cons h
theorem j_mem {L : List J} {i : Nat} (h : i < L.length) : L.getD i J.zero ∈ L := by
 rw [List.getD_eq_getElem?_getD, List.getElem?_eq_getElem h]; exact List.getElem_mem _
theorem jn_eq (j : J) : jn j = 1 + jns j.items := by obtain ⟨k, n, t, ks, its⟩ := j; rw [jn]; rfl
end Go.Proofs.YtfncaghjfgnnhaaGreatDoor

namespace Go.Proofs.YtfncaghjfgnnhaaGreatDoor
open Go.RowKit
set_option maxRecDepth 100000
abbrev fSIn : Nat := 61
abbrev fSTx1 : Nat := 62
abbrev fSOK : Nat := 40
abbrev fSJOK : Nat := 35
noncomputable def resSO : ResT := fun f vs hp => match vs, hp with
 | [.agg [.int _ k, .int _ n, .str t, .dsl _ _ ks, .dsl _ _ its], .int _ _], [] => bif Nat.beq f fSOK then some ⟨jn (jOf k n t ks its), fun y => ⟨.tup [.int .i64 (y : Nat), .bool true], [], []⟩⟩ else none
 | [.int _ n, .int _ lo, .int _ hi], [] => bif Nat.beq f fSIn then some ⟨inB n lo hi, fun y => ⟨.bool y, [], []⟩⟩ else none
 | [.str t], [] => bif Nat.beq f fSTx1 then some ⟨plainT t, fun y => ⟨.bool y, [], []⟩⟩ else none
 | _, _ => none
noncomputable def ESO : Env := { P := Tryz.prog, vw := vwA, res := resSO }
def stTq (t : List UInt8) (i : Int) : St := ⟨mkTm 23 [(0, .str t), (2, .bool false), (3, .int .i64 i)], [], []⟩
def nfTq : Ex → Kp := fun ex => match ex with
 | .ret => { keep := [2] }
 | _ => { keep := [0, 2, 3] }
def stOk (j : J) (dp n i : Int) : St := ⟨mkTm 178 [(1, .int .i64 dp), (2, .ptr 0 0), (7, .int .i64 n), (8, .int .i64 i)], [some (vwJ j, tJ)], []⟩
def nfOk : Ex → Kp := fun ex => match ex with
 | .normal => { keep := [1, 2, 7, 8] }
 | .ret => { keep := [4, 5] }
 | _ => { keep := [7] }
--FOLD vwJ
set_option maxRecDepth 100000 in
theorem sInT (n lo hi : Int) : fnT ESO 0 fSIn [.int .i64 n, .int .i64 lo, .int .i64 hi] [] = (
 bif decide (lo ≤ n) then .done (Ret.mk (.bool (decide (n ≤ hi))) [] []) else .done (Ret.mk (.bool false) [] []) : T _) := by kernel_rfl
set_option maxRecDepth 100000 in
theorem sTextL (t : List UInt8) (i : Int) : bodyT ESO 0 nfTq (lp Tryz.prog fSTx1 0) (stTq t i) = (
 bif decide (i < (↑t.length : Int)) then .need [0 ≤ i ∧ i < (↑t.length : Int)] (bif decide ((↑(UInt8.toNat (List.getD t (Int.toNat i) (0 : UInt8))) : Int) < 32) then .done (Ex.ret, St.mk (mkTm 23 [(2, .bool false)]) [] []) else .need [0 ≤ i
 ∧ i < (↑t.length : Int)] (bif decide ((↑(UInt8.toNat (List.getD t (Int.toNat i) (0 : UInt8))) : Int) > 126) then .done (Ex.ret, St.mk (mkTm 23 [(2, .bool false)]) [] []) else .done (Ex.normal, St.mk (mkTm 23 [(0, .str t), (2, .bool false),
 (3, .int .i64 (IntKind.wrap IntKind.i64 (i + 1)))]) [] []))) else .done (Ex.exit 0, St.mk (mkTm 23 [(0, .str t), (2, .bool false), (3, .int .i64 i)]) [] []) : T _) := by kernel_rfl
theorem sIn_ok (n lo hi : Int) : FnOK Tryz.prog fSIn [.int .i64 n, .int .i64 lo, .int .i64 hi] [] ⟨.bool (inB n lo hi), [], []⟩ := by
 refine fnOK_TL (E := ESO) follows named (sInT n lo hi) (by simp) ?_
 simp only [WP_cond, T.WP, decide_eq_true_eq, decide_eq_false_iff_not]
 unfold inB
 refine ⟨fun h => ?_, fun h => ?_⟩
 ·rw [decide_eq_true h]; exact ⟨rfl, rfl, by simp⟩
 ·rw [decide_eq_false h]; exact ⟨rfl, rfl, by simp⟩
def RD (j : J) (d : Int) : Prop := ∃ room, 0 ≤ room ∧ (rightJ j d room).1 = true
theorem rightJs_item : ∀ (L : List J) (d room : Int), 0 ≤ room → (rightJs L d room).1 = true → ∀ x ∈ L, RD x d
 | [], d, room, h, hr, x, hx => by cases hx
 | y :: ys, d, room, h, hr, x, hx => by
  obtain ⟨h1, h2⟩ := rightJs_cons hr
  rcases List.mem_cons.1 hx with rfl | hx
  ·exact ⟨room, h, h1⟩
  ·rw [h2] at hr
   exact rightJs_item ys d _ (rightJ_room y d room h h1).1 hr x hx
theorem RD.item {j : J} {d : Int} (h : RD j d) : ∀ x ∈ j.items, RD x (d + 1) := by
 obtain ⟨room, h0, h⟩ := h
 obtain ⟨h1, h2, h3, h4⟩ := rightJ_in h
 rw [h4] at h
 exact rightJs_item _ _ _ h1 h
theorem RD.part {j : J} {d : Int} (h : RD j d) : partJ j = true ∧ d < 12 := by
 obtain ⟨room, h0, h⟩ := h
 obtain ⟨h1, h2, h3, h4⟩ := rightJ_in h
 exact ⟨h3, h2⟩
theorem k_mem {K : List (List UInt8)} {i : Nat} (h : i < K.length) : K.getD i [] ∈ K := by
 rw [List.getD_eq_getElem?_getD, List.getElem?_eq_getElem h]; exact List.getElem_mem _
set_option maxRecDepth 100000 in
theorem sOkT0 (d : Int) : fnT ESO 0 fSOK [.agg (vwJ (J.mk 0 0 [] [] [])), .int .i64 (12 - d)] [] = (
 bif (12 : Int) - d == 0 then .done (Ret.mk (.tup [.int .i64 0, .bool false]) [] []) else .done (Ret.mk (.tup [.int .i64 1, .bool true]) [] []) : T _) := by kernel_rfl
set_option maxRecDepth 100000 in
theorem sOkT1 (n d : Int) : fnT ESO 0 fSOK [.agg (vwJ (J.mk 1 n [] [] [])), .int .i64 (12 - d)] [] = (
 bif (12 : Int) - d == 0 then .done (Ret.mk (.tup [.int .i64 0, .bool false]) [] []) else .bind (inB (J.n (J.mk (1 : Int) n [] [] [])) (0 : Int) (1 : Int)) fun y0 => .need [FnOK (Env.P ESO) 61 [.int .i64 (J.n (J.mk (1 : Int) n [] [] [])),
 .int .i64 0, .int .i64 1] [] (Ret.mk (.bool y0) [] [])] (bif y0 then .done (Ret.mk (.tup [.int .i64 1, .bool true]) [] []) else .done (Ret.mk (.tup [.int .i64 1, .bool false]) [] [])) : T _) := by kernel_rfl
set_option maxRecDepth 100000 in
theorem sOkT2 (n d : Int) : fnT ESO 0 fSOK [.agg (vwJ (J.mk 2 n [] [] [])), .int .i64 (12 - d)] [] = (
 bif (12 : Int) - d == 0 then .done (Ret.mk (.tup [.int .i64 0, .bool false]) [] []) else .bind (inB (J.n (J.mk (2 : Int) n [] [] [])) (-1000000000 : Int) (1000000000 : Int)) fun y0 => .need [FnOK (Env.P ESO) 61 [.int .i64 (J.n (J.mk (2 :
 Int) n [] [] [])), .int .i64 (-1000000000 : Int), .int .i64 1000000000] [] (Ret.mk (.bool y0) [] [])] (bif y0 then .done (Ret.mk (.tup [.int .i64 1, .bool true]) [] []) else .done (Ret.mk (.tup [.int .i64 1, .bool false]) [] [])) : T _) := by kernel_rfl
set_option maxRecDepth 100000 in
theorem sOkT3 (t : List UInt8) (d : Int) : fnT ESO 0 fSOK [.agg (vwJ (J.mk 3 0 t [] [])), .int .i64 (12 - d)] [] = (
 bif (12 : Int) - d == 0 then .done (Ret.mk (.tup [.int .i64 0, .bool false]) [] []) else .bind (plainT (J.t (J.mk (3 : Int) (0 : Int) t [] []))) fun y0 => .need [FnOK (Env.P ESO) 62 [.str (J.t (J.mk (3 : Int) (0 : Int) t [] []))] [] (Ret.mk
 (.bool y0) [] [])] (.done (Ret.mk (.tup [.int .i64 1, .bool y0]) [] [])) : T _) := by kernel_rfl
theorem jn_leaf (k n : Int) (t : List UInt8) (ks : List (List UInt8)) : jn (.mk k n t ks []) = 1 := by rw [jn, jns]
end Go.Proofs.YtfncaghjfgnnhaaGreatDoor

namespace Go.Proofs.YtfncaghjfgnnhaaGreatDoor
open Go.RowKit
set_option maxRecDepth 100000
theorem plainT_all (t : List UInt8) : plainT t = (t.all plainC && decide (t.length ≤ 200)) := rfl
theorem sTextG_loop (t : List UInt8) (ht : t.length ≤ 4294967296) : ∀ (m i : Nat), i + m = t.length →
  LoopTo Tryz.prog 0 (lp Tryz.prog fSTx1 0) (stTq t i) (bif (t.drop i).all plainC then .exit 0 else .ret) (bif (t.drop i).all plainC then stTq t t.length else ⟨mkTm 23 [(2, .bool false)], [], []⟩)
 | 0, i, h => by
  obtain rfl : i = t.length := h
  rw [List.drop_length]
  refine loopT (E := ESO) follows named (sTextL t _) ?_
  simp only [WP_cond, T.WP, All, decide_eq_true_eq, decide_eq_false_iff_not, and_true]
  exact ⟨fun h => by omega, fun _ => ⟨rfl, rfl⟩⟩
 | m + 1, i, h => by
  have ed : t.drop i = t.getD i 0 :: t.drop (i + 1) := by rw [List.getD_eq_getElem?_getD, List.getElem?_eq_getElem (by omega)]; exact List.drop_eq_getElem_cons (by omega)
  have ih := sTextG_loop t ht m (i + 1) (by omega)
  have tree := sTextL t i
  rw [ed, List.all_cons]
  cases hc : plainC (t.getD i 0) with
  | true =>
   have hb : 32 ≤ (t.getD i 0).toNat ∧ (t.getD i 0).toNat ≤ 126 := by
    unfold plainC at hc
    rw [Bool.and_eq_true, decide_eq_true_eq, decide_eq_true_eq] at hc
    exact hc
   refine loopT (E := ESO) follows named tree ?_
   simp only [WP_cond, T.WP, All, decide_eq_true_eq, decide_eq_false_iff_not, and_true, Int.toNat_natCast, wrap_succ (show i < 9223372036854775807 by omega), Bool.true_and]
   exact ⟨fun _ => ⟨by omega, fun h => by omega, fun _ => ⟨by omega, fun h => by omega, fun _ => ih⟩⟩, fun h => by omega⟩
  | false =>
   have hb : (t.getD i 0).toNat < 32 ∨ 126 < (t.getD i 0).toNat := by
    unfold plainC at hc
    rw [Bool.and_eq_false_iff, decide_eq_false_iff_not, decide_eq_false_iff_not] at hc
    omega
   refine loopT (E := ESO) follows named tree ?_
   simp only [WP_cond, T.WP, All, decide_eq_true_eq, decide_eq_false_iff_not, and_true, Int.toNat_natCast, Bool.false_and, cond_false]
   exact ⟨fun _ => ⟨by omega, fun h => ⟨rfl, rfl⟩, fun _ => ⟨by omega, fun h => ⟨rfl, rfl⟩, fun h => by omega⟩⟩, fun h => by omega⟩
noncomputable def lsTg : Nat → St → Option LRes := fun id s => match id, s.tm.get 0 with
 | 0, .str t => some ⟨t.all plainC, fun (y : Bool) => .two { keep := [0, 2, 3] } (stTq t 0) y (.exit 0) (stTq t t.length) .ret ⟨mkTm 23 [(2, .bool false)], [], []⟩⟩
 | _, _ => none
set_option maxRecDepth 100000 in
theorem sTextGT (t : List UInt8) : fnT { P := Tryz.prog, vw := vwA, res := res0, ls := lsTg } 0 fSTx1 [.str t] [] = (
 .bind (List.all t plainC) fun y0 => .need [St.mk (mkTm 23 [(0, .str t), (2, .bool false), (3, .int .i64 0)]) [] [] = St.mk (mkTm 23 [(0, .str t), (2, .bool false), (3, .int .i64 0)]) [] []] (bif y0 then .need [SoundC Tryz.prog 0 (blk
 Tryz.prog fSTx1 0) (St.mk (mkTm 23 [(0, .str t), (2, .bool false), (3, .int .i64 0)]) [] []) (Ex.exit 0) (St.mk (mkTm 23 [(0, .str t), (2, .bool false), (3, .int .i64 (↑t.length : Int))]) [] [])] (.done (Ret.mk (.bool (decide ((↑t.length :
 Int) ≤ 200))) [] [])) else .need [SoundC Tryz.prog 0 (blk Tryz.prog fSTx1 0) (St.mk (mkTm 23 [(0, .str t), (2, .bool false), (3, .int .i64 0)]) [] []) Ex.ret (St.mk (mkTm 23 [(2, .bool false)]) [] [])] (.done (Ret.mk (.bool false) [] []))) : T _) := (T.force_eq _).symm.trans (by kernel_rfl)
theorem sTextG_ok (t : List UInt8) (ht : t.length ≤ 4294967296) : FnOK Tryz.prog fSTx1 [.str t] [] ⟨.bool (plainT t), [], []⟩ := by
 refine fnOK_TL (E := { P := Tryz.prog, vw := vwA, res := res0, ls := lsTg }) follows named (sTextGT t) (by simp) ?_
 have hl := sTextG_loop t ht t.length 0 (by omega)
 rw [List.drop_zero] at hl
 simp only [WP_cond, T.WP, All, and_true]
 rw [plainT_all]
 rintro y rfl
 refine ⟨trivial, fun h => ?_, fun h => ?_⟩
 ·rw [h] at hl ⊢
  refine ⟨.loopTo hl, ?_⟩
  have e : decide ((t.length : Int) ≤ 200) = decide (t.length ≤ 200) := decide_eq_decide.2 (by omega)
  rw [e, Bool.true_and]; exact ⟨rfl, rfl, by simp⟩
 ·rw [h] at hl ⊢
  refine ⟨.loopTo hl, ?_⟩
  rw [Bool.false_and]; exact ⟨rfl, rfl, by simp⟩
end Go.Proofs.YtfncaghjfgnnhaaGreatDoor

namespace Go.Proofs.YtfncaghjfgnnhaaGreatDoor
open Go.RowKit
set_option maxRecDepth 100000
noncomputable def resSG (f : J → Int × Bool) : ResT := fun g vs hp => match vs, hp with
 | [.agg [.int _ k, .int _ n, .str t, .dsl _ _ ks, .dsl _ _ its], .int _ _], [] => bif Nat.beq g fSOK then some ⟨f (jOf k n t ks its), fun y => ⟨.tup [.int .i64 y.1, .bool y.2], [], []⟩⟩ else none
 | [.int _ n, .int _ lo, .int _ hi], [] => bif Nat.beq g fSIn then some ⟨inB n lo hi, fun y => ⟨.bool y, [], []⟩⟩ else none
 | [.str t], [] => bif Nat.beq g fSTx1 then some ⟨plainT t, fun y => ⟨.bool y, [], []⟩⟩ else none
 | _, _ => none
noncomputable def ESG (f : J → Int × Bool) : Env := { P := Tryz.prog, vw := vwA, res := resSG f }
--FOLD vwJ
set_option maxRecDepth 100000 in
theorem sgL (f : J → Int × Bool) (j : J) (dp n i : Int) : bodyT (ESG f) 0 nfOk (lp Tryz.prog fSOK 1) (stOk j dp n i) = (
 bif decide (i < (↑(List.length (J.items j)) : Int)) then bif J.kind j == 5 then .need [0 ≤ i ∧ i < (↑(List.length (J.keys j)) : Int), List.take 1 (List.drop (Int.toNat i * 1) (encs encStr (J.keys j))) = [.str (List.getD (decL encStr (encs
 encStr (J.keys j))) (Int.toNat i) [])]] (.bind (plainT (List.getD (decL encStr (encs encStr (J.keys j))) (Int.toNat i) [])) fun y0 => .need [FnOK Tryz.prog 62 [.str (List.getD (decL encStr (encs encStr (J.keys j))) (Int.toNat i) [])] []
 (Ret.mk (.bool y0) [] [])] (bif !y0 then .done (Ex.ret, St.mk (mkTm 178 [(4, .int .i64 0), (5, .bool false)]) [] []) else bif decide (i > 0) then .need [0 ≤ IntKind.wrap IntKind.i64 (i - 1) ∧ IntKind.wrap IntKind.i64 (i - 1) <
 (↑(List.length (J.keys j)) : Int), List.take 1 (List.drop (Int.toNat (IntKind.wrap IntKind.i64 (i - 1)) * 1) (encs encStr (J.keys j))) = [.str (List.getD (decL encStr (encs encStr (J.keys j))) (Int.toNat (IntKind.wrap IntKind.i64 (i - 1)))
 [])]] (.need [0 ≤ i ∧ i < (↑(List.length (J.keys j)) : Int), List.take 1 (List.drop (Int.toNat i * 1) (encs encStr (J.keys j))) = [.str (List.getD (decL encStr (encs encStr (J.keys j))) (Int.toNat i) [])]] (bif !Op.bytesLess (List.getD
 (decL encStr (encs encStr (J.keys j))) (Int.toNat (IntKind.wrap IntKind.i64 (i - 1))) []) (List.getD (decL encStr (encs encStr (J.keys j))) (Int.toNat i) []) then .done (Ex.ret, St.mk (mkTm 178 [(4, .int .i64 0), (5, .bool false)]) [] [])
 else .need [0 ≤ i ∧ i < (↑(List.length (J.items j)) : Int), List.take 5 (List.drop (Int.toNat i * 5) (encs encJ (J.items j))) = vwJ (List.getD (decL encJ (encs encJ (J.items j))) (Int.toNat i) (J.mk (0 : Int) (0 : Int) [] [] []))] (.bind (f
 (jOf (J.kind (List.getD (decL encJ (encs encJ (J.items j))) (Int.toNat i) (J.mk (0 : Int) (0 : Int) [] [] []))) (J.n (List.getD (decL encJ (encs encJ (J.items j))) (Int.toNat i) (J.mk (0 : Int) (0 : Int) [] [] []))) (J.t (List.getD (decL
 encJ (encs encJ (J.items j))) (Int.toNat i) (J.mk (0 : Int) (0 : Int) [] [] []))) (encs encStr (J.keys (List.getD (decL encJ (encs encJ (J.items j))) (Int.toNat i) (J.mk (0 : Int) (0 : Int) [] [] [])))) (encs encJ (J.items (List.getD (decL
 encJ (encs encJ (J.items j))) (Int.toNat i) (J.mk (0 : Int) (0 : Int) [] [] [])))))) fun y1 => .need [FnOK Tryz.prog 40 [.agg (vwJ (List.getD (decL encJ (encs encJ (J.items j))) (Int.toNat i) (J.mk (0 : Int) (0 : Int) [] [] []))), .int .i64
 (IntKind.wrap IntKind.i64 (dp - 1))] [] (Ret.mk (.tup [.int .i64 y1.1, .bool y1.2]) [] [])] (bif !y1.2 then .done (Ex.ret, St.mk (mkTm 178 [(4, .int .i64 0), (5, .bool false)]) [] []) else bif decide (IntKind.wrap IntKind.i64 (n + y1.1) >
 400) then .done (Ex.ret, St.mk (mkTm 178 [(4, .int .i64 0), (5, .bool false)]) [] []) else .done (Ex.normal, St.mk (mkTm 178 [(1, .int .i64 dp), (2, .ptr 0 0), (7, .int .i64 (IntKind.wrap IntKind.i64 (n + y1.1))), (8, .int .i64
 (IntKind.wrap IntKind.i64 (i + 1)))]) [some (vwJ j, 25)] []))))) else .need [0 ≤ i ∧ i < (↑(List.length (J.items j)) : Int), List.take 5 (List.drop (Int.toNat i * 5) (encs encJ (J.items j))) = vwJ (List.getD (decL encJ (encs encJ (J.items
 j))) (Int.toNat i) (J.mk (0 : Int) (0 : Int) [] [] []))] (.bind (f (jOf (J.kind (List.getD (decL encJ (encs encJ (J.items j))) (Int.toNat i) (J.mk (0 : Int) (0 : Int) [] [] []))) (J.n (List.getD (decL encJ (encs encJ (J.items j)))
 (Int.toNat i) (J.mk (0 : Int) (0 : Int) [] [] []))) (J.t (List.getD (decL encJ (encs encJ (J.items j))) (Int.toNat i) (J.mk (0 : Int) (0 : Int) [] [] []))) (encs encStr (J.keys (List.getD (decL encJ (encs encJ (J.items j))) (Int.toNat i)
 (J.mk (0 : Int) (0 : Int) [] [] [])))) (encs encJ (J.items (List.getD (decL encJ (encs encJ (J.items j))) (Int.toNat i) (J.mk (0 : Int) (0 : Int) [] [] [])))))) fun y2 => .need [FnOK Tryz.prog 40 [.agg (vwJ (List.getD (decL encJ (encs encJ
 (J.items j))) (Int.toNat i) (J.mk (0 : Int) (0 : Int) [] [] []))), .int .i64 (IntKind.wrap IntKind.i64 (dp - 1))] [] (Ret.mk (.tup [.int .i64 y2.1, .bool y2.2]) [] [])] (bif !y2.2 then .done (Ex.ret, St.mk (mkTm 178 [(4, .int .i64 0), (5,
 .bool false)]) [] []) else bif decide (IntKind.wrap IntKind.i64 (n + y2.1) > 400) then .done (Ex.ret, St.mk (mkTm 178 [(4, .int .i64 0), (5, .bool false)]) [] []) else .done (Ex.normal, St.mk (mkTm 178 [(1, .int .i64 dp), (2, .ptr 0 0), (7,
 .int .i64 (IntKind.wrap IntKind.i64 (n + y2.1))), (8, .int .i64 (IntKind.wrap IntKind.i64 (i + 1)))]) [some (vwJ j, 25)] []))))) else .need [0 ≤ i ∧ i < (↑(List.length (J.items j)) : Int), List.take 5 (List.drop (Int.toNat i * 5) (encs encJ
 (J.items j))) = vwJ (List.getD (decL encJ (encs encJ (J.items j))) (Int.toNat i) (J.mk (0 : Int) (0 : Int) [] [] []))] (.bind (f (jOf (J.kind (List.getD (decL encJ (encs encJ (J.items j))) (Int.toNat i) (J.mk (0 : Int) (0 : Int) [] [] [])))
 (J.n (List.getD (decL encJ (encs encJ (J.items j))) (Int.toNat i) (J.mk (0 : Int) (0 : Int) [] [] []))) (J.t (List.getD (decL encJ (encs encJ (J.items j))) (Int.toNat i) (J.mk (0 : Int) (0 : Int) [] [] []))) (encs encStr (J.keys (List.getD
 (decL encJ (encs encJ (J.items j))) (Int.toNat i) (J.mk (0 : Int) (0 : Int) [] [] [])))) (encs encJ (J.items (List.getD (decL encJ (encs encJ (J.items j))) (Int.toNat i) (J.mk (0 : Int) (0 : Int) [] [] [])))))) fun y3 => .need [FnOK
 Tryz.prog 40 [.agg (vwJ (List.getD (decL encJ (encs encJ (J.items j))) (Int.toNat i) (J.mk (0 : Int) (0 : Int) [] [] []))), .int .i64 (IntKind.wrap IntKind.i64 (dp - 1))] [] (Ret.mk (.tup [.int .i64 y3.1, .bool y3.2]) [] [])] (bif !y3.2
 then .done (Ex.ret, St.mk (mkTm 178 [(4, .int .i64 0), (5, .bool false)]) [] []) else bif decide (IntKind.wrap IntKind.i64 (n + y3.1) > 400) then .done (Ex.ret, St.mk (mkTm 178 [(4, .int .i64 0), (5, .bool false)]) [] []) else .done
 (Ex.normal, St.mk (mkTm 178 [(1, .int .i64 dp), (2, .ptr 0 0), (7, .int .i64 (IntKind.wrap IntKind.i64 (n + y3.1))), (8, .int .i64 (IntKind.wrap IntKind.i64 (i + 1)))]) [some (vwJ j, 25)] []))) else .done (Ex.exit 1, St.mk (mkTm 178 [(7,
 .int .i64 n)]) [] []) : T _) := by kernel_rfl
def kBad (j : J) (i : Nat) : Bool := j.kind == 5 && (!plainT (j.keys.getD i []) || (decide (0 < i) && !Op.bytesLess (j.keys.getD (i - 1) []) (j.keys.getD i [])))
def sokI (f : J → Int × Bool) (j : J) : Nat → Int → Nat → Option Int
 | 0, n, _ => some n
 | m + 1, n, i => bif kBad j i || (!(f (j.items.getD i J.zero)).2 || decide (400 < n + (f (j.items.getD i J.zero)).1)) then none else sokI f j m (n + (f (j.items.getD i J.zero)).1) (i + 1)
def stOkN : St := ⟨mkTm 178 [(4, .int .i64 0), (5, .bool false)], [], []⟩
theorem sg_loop (f : J → Int × Bool) (j : J) (d : Int) (hd : 1 ≤ d ∧ d ≤ 12) (hb : ∀ x ∈ j.items, 0 ≤ (f x).1 ∧ (f x).1 ≤ 400) (hL : ∀ x ∈ j.items, FnOK Tryz.prog fSOK [.agg (vwJ x), .int .i64 (d - 1)] [] ⟨.tup [.int .i64 (f x).1, .bool (f x).2], [], []⟩) (hk : j.kind = 5 → j.keys.length = j.items.length) (hkl : ∀ s ∈ j.keys, s.length ≤ 4294967296) (hl : j.items.length ≤ 4294967296) :
  ∀ (m : Nat) (n : Int) (i : Nat), i + m = j.items.length → 0 ≤ n → n ≤ 400 →
  LoopTo Tryz.prog 0 (lp Tryz.prog fSOK 1) (stOk j d n i) (match sokI f j m n i with | some _ => .exit 1 | none => .ret) (match sokI f j m n i with | some v => ⟨mkTm 178 [(7, .int .i64 v)], [], []⟩ | none => stOkN)
 | 0, n, i, h, h1, h2 => by
  obtain rfl : i = j.items.length := h
  refine loopT (E := ESG f) follows named (sgL f j d n _) ?_
  simp only [WP_cond, T.WP, All, decide_eq_true_eq, decide_eq_false_iff_not, and_true, beq_iff_eq, beq_eq_false_iff_ne, ne_eq]
  exact ⟨fun h => by omega, fun _ => ⟨rfl, rfl⟩⟩
 | m + 1, n, i, h, h1, h2 => by
  have hat := vwJ_at j.items i (by omega)
  have hm := j_mem (L := j.items) (i := i) (by omega)
  have hx := hL _ hm
  have hbx := hb _ hm
  have hw : IntKind.i64.wrap (d - 1) = d - 1 := wrap_id (by omega)
  have hn : IntKind.i64.wrap (n + (f (j.items.getD i J.zero)).1) = n + (f (j.items.getD i J.zero)).1 := wrap_id (by omega)
  have bad : kBad j i = true → sokI f j (m + 1) n i = none := fun h => by rw [sokI, h]; rfl
  have good : kBad j i = false → sokI f j (m + 1) n i = bif !(f (j.items.getD i J.zero)).2 || decide (400 < n + (f (j.items.getD i J.zero)).1) then none else sokI f j m (n + (f (j.items.getD i J.zero)).1) (i + 1) := fun h => by rw [sokI, h, Bool.false_or]
  refine loopT (E := ESG f) follows named (sgL f j d n i) ?_
  simp only [WP_cond, T.WP, All, decide_eq_true_eq, decide_eq_false_iff_not, and_true, beq_iff_eq, beq_eq_false_iff_ne, ne_eq, Int.toNat_natCast, layJ.decL, layStr.decL, wrap_succ (show i < 9223372036854775807 by omega), show J.mk 0 0 [] [] [] = J.zero from rfl]
  refine ⟨fun _ => ⟨fun h5 => ?_, fun h5 => ?_⟩, fun h => by omega⟩
  ·have e1 := hk h5
   have hkt := layStr.at j.keys [] i 1 (by omega) rfl
   have k5 : (j.kind == 5) = true := beq_iff_eq.2 h5
   refine ⟨⟨by omega, hkt⟩, ?_⟩
   rintro z rfl
   refine ⟨sTextG_ok _ (hkl _ (k_mem (by omega))), fun hp => ?_, fun hp => ⟨fun h0 => ?_, fun h0 => ?_⟩⟩
   ·have hp : plainT (j.keys.getD i []) = false := by simpa using hp
    rw [bad (by unfold kBad; rw [k5, hp]; rfl)]; exact ⟨rfl, rfl⟩
   ·have hp : plainT (j.keys.getD i []) = true := by simpa using hp
    have hi1 : IntKind.i64.wrap ((i : Int) - 1) = ((i - 1 : Nat) : Int) := by rw [wrap_id (by omega)]; omega
    rw [hi1]
    simp only [Int.toNat_natCast]
    have hkt1 := layStr.at j.keys [] (i - 1) 1 (by omega) rfl
    have di : decide (0 < i) = true := decide_eq_true (by omega)
    refine ⟨⟨by omega, hkt1⟩, ⟨by omega, hkt⟩, fun hl2 => ?_, fun hl2 => ⟨⟨by omega, hat⟩, ?_⟩⟩
    ·have hl2 : Op.bytesLess (j.keys.getD (i - 1) []) (j.keys.getD i []) = false := by simpa using hl2
     rw [bad (by unfold kBad; rw [k5, hp, di, hl2]; rfl)]; exact ⟨rfl, rfl⟩
    ·have hl2 : Op.bytesLess (j.keys.getD (i - 1) []) (j.keys.getD i []) = true := by simpa using hl2
     have hkb : kBad j i = false := by unfold kBad; rw [k5, hp, di, hl2]; rfl
     rintro y rfl
     rw [jOf_eta, hw, hn]
     refine ⟨hx, fun h => ?_, fun h => ⟨fun h2 => ?_, fun h2 => ?_⟩⟩
     ·rw [good hkb, show (f (j.items.getD i J.zero)).2 = false by simpa using h]; exact ⟨rfl, rfl⟩
     ·rw [good hkb, decide_eq_true (show 400 < n + (f (j.items.getD i J.zero)).1 by omega), Bool.or_true]; exact ⟨rfl, rfl⟩
     ·rw [good hkb, show (f (j.items.getD i J.zero)).2 = true by simpa using h, decide_eq_false (show ¬ 400 < n + (f (j.items.getD i J.zero)).1 by omega)]
      exact sg_loop f j d hd hb hL hk hkl hl m _ (i + 1) (by omega) (by omega) (by omega)
   ·have hp : plainT (j.keys.getD i []) = true := by simpa using hp
    have di : decide (0 < i) = false := decide_eq_false (by omega)
    have hkb : kBad j i = false := by unfold kBad; rw [k5, hp, di]; rfl
    refine ⟨⟨by omega, hat⟩, ?_⟩
    rintro y rfl
    rw [jOf_eta, hw, hn]
    refine ⟨hx, fun h => ?_, fun h => ⟨fun h2 => ?_, fun h2 => ?_⟩⟩
    ·rw [good hkb, show (f (j.items.getD i J.zero)).2 = false by simpa using h]; exact ⟨rfl, rfl⟩
    ·rw [good hkb, decide_eq_true (show 400 < n + (f (j.items.getD i J.zero)).1 by omega), Bool.or_true]; exact ⟨rfl, rfl⟩
    ·rw [good hkb, show (f (j.items.getD i J.zero)).2 = true by simpa using h, decide_eq_false (show ¬ 400 < n + (f (j.items.getD i J.zero)).1 by omega)]
     exact sg_loop f j d hd hb hL hk hkl hl m _ (i + 1) (by omega) (by omega) (by omega)
  ·have hkb : kBad j i = false := by unfold kBad; rw [show (j.kind == 5) = false from beq_eq_false_iff_ne.2 h5]; rfl
   refine ⟨⟨by omega, hat⟩, ?_⟩
   rintro y rfl
   rw [jOf_eta, hw, hn]
   refine ⟨hx, fun h => ?_, fun h => ⟨fun h2 => ?_, fun h2 => ?_⟩⟩
   ·rw [good hkb, show (f (j.items.getD i J.zero)).2 = false by simpa using h]; exact ⟨rfl, rfl⟩
   ·rw [good hkb, decide_eq_true (show 400 < n + (f (j.items.getD i J.zero)).1 by omega), Bool.or_true]; exact ⟨rfl, rfl⟩
   ·rw [good hkb, show (f (j.items.getD i J.zero)).2 = true by simpa using h, decide_eq_false (show ¬ 400 < n + (f (j.items.getD i J.zero)).1 by omega)]
    exact sg_loop f j d hd hb hL hk hkl hl m _ (i + 1) (by omega) (by omega) (by omega)
end Go.Proofs.YtfncaghjfgnnhaaGreatDoor

namespace Go.Proofs.YtfncaghjfgnnhaaGreatDoor
open Go.RowKit
set_option maxRecDepth 100000
inductive PF : J → Prop where
 | null : PF (.mk 0 0 [] [] [])
 | bool {n : Int} (h : n = 0 ∨ n = 1) : PF (.mk 1 n [] [] [])
 | num {n : Int} : PF (.mk 2 n [] [] [])
 | txt {t : List UInt8} (h : t.length ≤ 4294967296) : PF (.mk 3 0 t [] [])
 | lst {its : List J} (h : ∀ x ∈ its, PF x) (hl : its.length ≤ 4294967296) : PF (.mk 4 0 [] [] its)
 | obj {ks : List (List UInt8)} {its : List J} (h : ∀ x ∈ its, PF x) (hl : its.length ≤ 4294967296) (hk : ks.length = its.length) (hs : ∀ s ∈ ks, s.length ≤ 4294967296) : PF (.mk 5 0 [] ks its)
def pfo : Nat → J → Int × Bool
 | 0, _ => (0, false)
 | d + 1, j => if j.kind = 0 then (1, true) else if j.kind = 1 then (1, true) else if j.kind = 2 then (1, inB j.n (-1000000000) 1000000000) else if j.kind = 3 then (1, plainT j.t)
  else match sokI (pfo d) j j.items.length 1 0 with
   | some v => (v, true)
   | none => (0, false)
noncomputable def lsOg (f : J → Int × Bool) (j : J) (d : Int) : Nat → St → Option LRes := fun id _ => match id with
 | 1 => some ⟨sokI f j j.items.length 1 0, fun y => .two { keep := [1, 2, 7, 8] } (stOk j d 1 0) y.isSome (.exit 1) ⟨mkTm 178 [(7, .int .i64 (y.getD 0))], [], []⟩ .ret stOkN⟩
 | _ => none
--FOLD vwJ
set_option maxRecDepth 100000 in
theorem sg4T (f : J → Int × Bool) (its : List J) (d : Int) : fnT { P := Tryz.prog, vw := vwA, res := resSG f, ls := lsOg f (J.mk 4 0 [] [] its) d } 0 fSOK [.agg (vwJ (J.mk 4 0 [] [] its)), .int .i64 d] [] = (
 bif d == 0 then .done (Ret.mk (.tup [.int .i64 0, .bool false]) [] []) else .bind (sokI f (J.mk (4 : Int) (0 : Int) [] [] its) (List.length (J.items (J.mk (4 : Int) (0 : Int) [] [] its))) (1 : Int) 0) fun y0 => .need [St.mk (mkTm 178 [(1,
 .int .i64 d), (2, .ptr 0 0), (7, .int .i64 1), (8, .int .i64 0)]) [some ([.int .i64 4, .int .i64 0, .str (J.t (J.mk (4 : Int) (0 : Int) [] [] its)), .dsl 0 false [], .dsl (List.length (J.items (J.mk (4 : Int) (0 : Int) [] [] its))) false
 (encs encJ (J.items (J.mk (4 : Int) (0 : Int) [] [] its)))], 25)] [] = St.mk (mkTm 178 [(1, .int .i64 d), (2, .ptr 0 0), (7, .int .i64 1), (8, .int .i64 0)]) [some ([.int .i64 4, .int .i64 0, .str (J.t (J.mk (4 : Int) (0 : Int) [] [] its)),
 .dsl 0 false [], .dsl (List.length (J.items (J.mk (4 : Int) (0 : Int) [] [] its))) false (encs encJ (J.items (J.mk (4 : Int) (0 : Int) [] [] its)))], 25)] []] (bif Option.isSome y0 then .need [SoundC Tryz.prog 0 (blk Tryz.prog fSOK 1)
 (St.mk (mkTm 178 [(1, .int .i64 d), (2, .ptr 0 0), (7, .int .i64 1), (8, .int .i64 0)]) [some ([.int .i64 4, .int .i64 0, .str (J.t (J.mk (4 : Int) (0 : Int) [] [] its)), .dsl 0 false [], .dsl (List.length (J.items (J.mk (4 : Int) (0 : Int)
 [] [] its))) false (encs encJ (J.items (J.mk (4 : Int) (0 : Int) [] [] its)))], 25)] []) (Ex.exit 1) (St.mk (mkTm 178 [(7, .int .i64 (Option.getD y0 (0 : Int)))]) [] [])] (.done (Ret.mk (.tup [.int .i64 (Option.getD y0 (0 : Int)), .bool
 true]) [] [])) else .need [SoundC Tryz.prog 0 (blk Tryz.prog fSOK 1) (St.mk (mkTm 178 [(1, .int .i64 d), (2, .ptr 0 0), (7, .int .i64 1), (8, .int .i64 0)]) [some ([.int .i64 4, .int .i64 0, .str (J.t (J.mk (4 : Int) (0 : Int) [] [] its)),
 .dsl 0 false [], .dsl (List.length (J.items (J.mk (4 : Int) (0 : Int) [] [] its))) false (encs encJ (J.items (J.mk (4 : Int) (0 : Int) [] [] its)))], 25)] []) Ex.ret (St.mk (mkTm 178 [(4, .int .i64 0), (5, .bool false)]) [] [])] (.done
 (Ret.mk (.tup [.int .i64 0, .bool false]) [] []))) : T _) := by kernel_rfl
set_option maxRecDepth 100000 in
theorem sg5T (f : J → Int × Bool) (ks : List (List UInt8)) (its : List J) (d : Int) : fnT { P := Tryz.prog, vw := vwA, res := resSG f, ls := lsOg f (J.mk 5 0 [] ks its) d } 0 fSOK [.agg (vwJ (J.mk 5 0 [] ks its)), .int .i64 d] [] = (
 bif d == 0 then .done (Ret.mk (.tup [.int .i64 0, .bool false]) [] []) else bif (↑(List.length (J.keys (J.mk (5 : Int) (0 : Int) [] ks its))) : Int) == 0 then bif (↑(List.length (J.keys (J.mk (5 : Int) (0 : Int) [] ks its))) : Int) !=
 (↑(List.length (J.items (J.mk (5 : Int) (0 : Int) [] ks its))) : Int) then .done (Ret.mk (.tup [.int .i64 0, .bool false]) [] []) else .bind (sokI f (J.mk (5 : Int) (0 : Int) [] ks its) (List.length (J.items (J.mk (5 : Int) (0 : Int) [] ks
 its))) (1 : Int) 0) fun y0 => .need [St.mk (mkTm 178 [(1, .int .i64 d), (2, .ptr 0 0), (7, .int .i64 1), (8, .int .i64 0)]) [some ([.int .i64 5, .int .i64 0, .str (J.t (J.mk (5 : Int) (0 : Int) [] ks its)), .dsl (List.length (J.keys (J.mk
 (5 : Int) (0 : Int) [] ks its))) false (encs encStr (J.keys (J.mk (5 : Int) (0 : Int) [] ks its))), .dsl (List.length (J.items (J.mk (5 : Int) (0 : Int) [] ks its))) false (encs encJ (J.items (J.mk (5 : Int) (0 : Int) [] ks its)))], 25)] []
 = St.mk (mkTm 178 [(1, .int .i64 d), (2, .ptr 0 0), (7, .int .i64 1), (8, .int .i64 0)]) [some ([.int .i64 5, .int .i64 0, .str (J.t (J.mk (5 : Int) (0 : Int) [] ks its)), .dsl (List.length (J.keys (J.mk (5 : Int) (0 : Int) [] ks its)))
 false (encs encStr (J.keys (J.mk (5 : Int) (0 : Int) [] ks its))), .dsl (List.length (J.items (J.mk (5 : Int) (0 : Int) [] ks its))) false (encs encJ (J.items (J.mk (5 : Int) (0 : Int) [] ks its)))], 25)] []] (bif Option.isSome y0 then
 .need [SoundC Tryz.prog 0 (blk Tryz.prog fSOK 1) (St.mk (mkTm 178 [(1, .int .i64 d), (2, .ptr 0 0), (7, .int .i64 1), (8, .int .i64 0)]) [some ([.int .i64 5, .int .i64 0, .str (J.t (J.mk (5 : Int) (0 : Int) [] ks its)), .dsl (List.length
 (J.keys (J.mk (5 : Int) (0 : Int) [] ks its))) false (encs encStr (J.keys (J.mk (5 : Int) (0 : Int) [] ks its))), .dsl (List.length (J.items (J.mk (5 : Int) (0 : Int) [] ks its))) false (encs encJ (J.items (J.mk (5 : Int) (0 : Int) [] ks
 its)))], 25)] []) (Ex.exit 1) (St.mk (mkTm 178 [(7, .int .i64 (Option.getD y0 (0 : Int)))]) [] [])] (.done (Ret.mk (.tup [.int .i64 (Option.getD y0 (0 : Int)), .bool true]) [] [])) else .need [SoundC Tryz.prog 0 (blk Tryz.prog fSOK 1)
 (St.mk (mkTm 178 [(1, .int .i64 d), (2, .ptr 0 0), (7, .int .i64 1), (8, .int .i64 0)]) [some ([.int .i64 5, .int .i64 0, .str (J.t (J.mk (5 : Int) (0 : Int) [] ks its)), .dsl (List.length (J.keys (J.mk (5 : Int) (0 : Int) [] ks its)))
 false (encs encStr (J.keys (J.mk (5 : Int) (0 : Int) [] ks its))), .dsl (List.length (J.items (J.mk (5 : Int) (0 : Int) [] ks its))) false (encs encJ (J.items (J.mk (5 : Int) (0 : Int) [] ks its)))], 25)] []) Ex.ret (St.mk (mkTm 178 [(4,
 .int .i64 0), (5, .bool false)]) [] [])] (.done (Ret.mk (.tup [.int .i64 0, .bool false]) [] []))) else bif (↑(List.length (J.keys (J.mk (5 : Int) (0 : Int) [] ks its))) : Int) != (↑(List.length (J.items (J.mk (5 : Int) (0 : Int) [] ks
 its))) : Int) then .done (Ret.mk (.tup [.int .i64 0, .bool false]) [] []) else .bind (sokI f (J.mk (5 : Int) (0 : Int) [] ks its) (List.length (J.items (J.mk (5 : Int) (0 : Int) [] ks its))) (1 : Int) 0) fun y1 => .need [St.mk (mkTm 178
 [(1, .int .i64 d), (2, .ptr 0 0), (7, .int .i64 1), (8, .int .i64 0)]) [some ([.int .i64 5, .int .i64 0, .str (J.t (J.mk (5 : Int) (0 : Int) [] ks its)), .dsl (List.length (J.keys (J.mk (5 : Int) (0 : Int) [] ks its))) false (encs encStr
 (J.keys (J.mk (5 : Int) (0 : Int) [] ks its))), .dsl (List.length (J.items (J.mk (5 : Int) (0 : Int) [] ks its))) false (encs encJ (J.items (J.mk (5 : Int) (0 : Int) [] ks its)))], 25)] [] = St.mk (mkTm 178 [(1, .int .i64 d), (2, .ptr 0 0),
 (7, .int .i64 1), (8, .int .i64 0)]) [some ([.int .i64 5, .int .i64 0, .str (J.t (J.mk (5 : Int) (0 : Int) [] ks its)), .dsl (List.length (J.keys (J.mk (5 : Int) (0 : Int) [] ks its))) false (encs encStr (J.keys (J.mk (5 : Int) (0 : Int) []
 ks its))), .dsl (List.length (J.items (J.mk (5 : Int) (0 : Int) [] ks its))) false (encs encJ (J.items (J.mk (5 : Int) (0 : Int) [] ks its)))], 25)] []] (bif Option.isSome y1 then .need [SoundC Tryz.prog 0 (blk Tryz.prog fSOK 1) (St.mk
 (mkTm 178 [(1, .int .i64 d), (2, .ptr 0 0), (7, .int .i64 1), (8, .int .i64 0)]) [some ([.int .i64 5, .int .i64 0, .str (J.t (J.mk (5 : Int) (0 : Int) [] ks its)), .dsl (List.length (J.keys (J.mk (5 : Int) (0 : Int) [] ks its))) false (encs
 encStr (J.keys (J.mk (5 : Int) (0 : Int) [] ks its))), .dsl (List.length (J.items (J.mk (5 : Int) (0 : Int) [] ks its))) false (encs encJ (J.items (J.mk (5 : Int) (0 : Int) [] ks its)))], 25)] []) (Ex.exit 1) (St.mk (mkTm 178 [(7, .int .i64
 (Option.getD y1 (0 : Int)))]) [] [])] (.done (Ret.mk (.tup [.int .i64 (Option.getD y1 (0 : Int)), .bool true]) [] [])) else .need [SoundC Tryz.prog 0 (blk Tryz.prog fSOK 1) (St.mk (mkTm 178 [(1, .int .i64 d), (2, .ptr 0 0), (7, .int .i64
 1), (8, .int .i64 0)]) [some ([.int .i64 5, .int .i64 0, .str (J.t (J.mk (5 : Int) (0 : Int) [] ks its)), .dsl (List.length (J.keys (J.mk (5 : Int) (0 : Int) [] ks its))) false (encs encStr (J.keys (J.mk (5 : Int) (0 : Int) [] ks its))),
 .dsl (List.length (J.items (J.mk (5 : Int) (0 : Int) [] ks its))) false (encs encJ (J.items (J.mk (5 : Int) (0 : Int) [] ks its)))], 25)] []) Ex.ret (St.mk (mkTm 178 [(4, .int .i64 0), (5, .bool false)]) [] [])] (.done (Ret.mk (.tup [.int
 .i64 0, .bool false]) [] []))) : T _) := by kernel_rfl
theorem sokI_bd {f : J → Int × Bool} {j : J} (hb : ∀ x ∈ j.items, 0 ≤ (f x).1) : ∀ (m : Nat) (n : Int) (i : Nat), i + m = j.items.length → 0 ≤ n → n ≤ 400 → ∀ v, sokI f j m n i = some v → 0 ≤ v ∧ v ≤ 400
 | 0, n, i, _, h1, h2, v, h => by cases h; exact ⟨h1, h2⟩
 | m + 1, n, i, hi, h1, h2, v, h => by
  rw [sokI] at h
  have hx := hb _ (j_mem (L := j.items) (i := i) (by omega))
  cases hc : (kBad j i || (!(f (j.items.getD i J.zero)).2 || decide (400 < n + (f (j.items.getD i J.zero)).1))) with
  | true => rw [hc] at h; cases h
  | false =>
   rw [hc] at h
   rw [Bool.or_eq_false_iff, Bool.or_eq_false_iff, decide_eq_false_iff_not] at hc
   exact sokI_bd hb m _ (i + 1) (by omega) (by omega) (by omega) v h
theorem pfo_bd : ∀ (d : Nat) (j : J), 0 ≤ (pfo d j).1 ∧ (pfo d j).1 ≤ 400
 | 0, j => by simp [pfo]
 | d + 1, j => by
  rw [pfo]
  split
  ·simp
  ·split
   ·simp
   ·split
    ·simp
    ·split
     ·simp
     ·cases h : sokI (pfo d) j j.items.length 1 0 with
      | none => simp
      | some v => exact sokI_bd (fun x _ => (pfo_bd d x).1) _ 1 0 (by omega) (by omega) (by omega) v h
theorem pfo_ok : ∀ (d : Nat) (j : J), d ≤ 12 → PF j → FnOK Tryz.prog fSOK [.agg (vwJ j), .int .i64 (d : Nat)] [] ⟨.tup [.int .i64 (pfo d j).1, .bool (pfo d j).2], [], []⟩ := by
 intro d
 induction d with
 | zero =>
  intro j hd hp
  have e0 : ((0 : Nat) : Int) = 12 - 12 := rfl
  rw [e0]
  cases hp with
  | null => refine fnOK_TL (E := ESO) follows named (sOkT0 12) (by simp) ?_; simp only [WP_cond, T.WP, beq_iff_eq, beq_eq_false_iff_ne, ne_eq]; exact ⟨fun _ => ⟨rfl, rfl, by simp⟩, fun h => absurd rfl h⟩
  | bool h => refine fnOK_TL (E := ESO) follows named (sOkT1 _ 12) (by simp) ?_; simp only [WP_cond, T.WP, All, and_true, beq_iff_eq, beq_eq_false_iff_ne, ne_eq]; exact ⟨fun _ => ⟨rfl, rfl, by simp⟩, fun h => absurd rfl h⟩
  | num => refine fnOK_TL (E := ESO) follows named (sOkT2 _ 12) (by simp) ?_; simp only [WP_cond, T.WP, All, and_true, beq_iff_eq, beq_eq_false_iff_ne, ne_eq]; exact ⟨fun _ => ⟨rfl, rfl, by simp⟩, fun h => absurd rfl h⟩
  | txt h => refine fnOK_TL (E := ESO) follows named (sOkT3 _ 12) (by simp) ?_; simp only [WP_cond, T.WP, All, and_true, beq_iff_eq, beq_eq_false_iff_ne, ne_eq]; exact ⟨fun _ => ⟨rfl, rfl, by simp⟩, fun h => absurd rfl h⟩
  | @lst its h hl => refine fnOK_TL (E := { P := Tryz.prog, vw := vwA, res := resSG (pfo 0), ls := lsOg (pfo 0) (J.mk 4 0 [] [] its) 0 }) follows named (sg4T (pfo 0) its 0) (by simp) ?_; simp only [WP_cond, T.WP, All, and_true, beq_iff_eq, beq_eq_false_iff_ne, ne_eq]; exact ⟨fun _ => ⟨rfl, rfl, by simp⟩, fun h => absurd trivial h⟩
  | @obj ks its h hl hk hs => refine fnOK_TL (E := { P := Tryz.prog, vw := vwA, res := resSG (pfo 0), ls := lsOg (pfo 0) (J.mk 5 0 [] ks its) 0 }) follows named (sg5T (pfo 0) ks its 0) (by simp) ?_; simp only [WP_cond, T.WP, All, and_true, beq_iff_eq, beq_eq_false_iff_ne, ne_eq]; exact ⟨fun _ => ⟨rfl, rfl, by simp⟩, fun h => absurd trivial h⟩
 | succ d ih =>
  intro j hd hp
  have e0 : ((d + 1 : Nat) : Int) = 12 - (12 - ((d + 1 : Nat) : Int)) := by omega
  have hw : ¬ (12 - (12 - ((d + 1 : Nat) : Int)) = 0) := by omega
  cases hp with
  | null =>
   rw [e0]
   refine fnOK_TL (E := ESO) follows named (sOkT0 (12 - ((d + 1 : Nat) : Int))) (by simp) ?_
   simp only [WP_cond, T.WP, beq_iff_eq, beq_eq_false_iff_ne, ne_eq]
   exact ⟨fun h => absurd h hw, fun _ => ⟨rfl, rfl, by simp⟩⟩
  | @bool n h =>
   rw [e0]
   refine fnOK_TL (E := ESO) follows named (sOkT1 n (12 - ((d + 1 : Nat) : Int))) (by simp) ?_
   have hI : inB n 0 1 = true := by rcases h with rfl | rfl <;> rfl
   simp only [WP_cond, T.WP, All, and_true, beq_iff_eq, beq_eq_false_iff_ne, ne_eq]
   refine ⟨fun h => absurd h hw, fun _ => ?_⟩
   rintro y rfl
   exact ⟨sIn_ok _ _ _, fun _ => ⟨rfl, rfl, by simp⟩, fun h => by change inB n _ _ = false at h; rw [hI] at h; cases h⟩
  | @num n =>
   rw [e0]
   refine fnOK_TL (E := ESO) follows named (sOkT2 n (12 - ((d + 1 : Nat) : Int))) (by simp) ?_
   simp only [WP_cond, T.WP, All, and_true, beq_iff_eq, beq_eq_false_iff_ne, ne_eq]
   refine ⟨fun h => absurd h hw, fun _ => ?_⟩
   rintro y rfl
   have ep : pfo (d + 1) (.mk 2 n [] [] []) = (1, inB n (-1000000000) 1000000000) := rfl
   rw [ep]
   refine ⟨sIn_ok _ _ _, fun h => ?_, fun h => ?_⟩
   ·rw [show inB n (-1000000000) 1000000000 = true from h]; exact ⟨rfl, rfl, by simp⟩
   ·rw [show inB n (-1000000000) 1000000000 = false from h]; exact ⟨rfl, rfl, by simp⟩
  | @txt t h =>
   rw [e0]
   refine fnOK_TL (E := ESO) follows named (sOkT3 t (12 - ((d + 1 : Nat) : Int))) (by simp) ?_
   simp only [WP_cond, T.WP, All, and_true, beq_iff_eq, beq_eq_false_iff_ne, ne_eq]
   refine ⟨fun h => absurd h hw, fun _ => ?_⟩
   rintro y rfl
   exact ⟨sTextG_ok _ h, ⟨rfl, rfl, by simp⟩⟩
  | @lst its h hl =>
   refine fnOK_TL (E := { P := Tryz.prog, vw := vwA, res := resSG (pfo d), ls := lsOg (pfo d) (J.mk 4 0 [] [] its) ((d + 1 : Nat) : Int) }) follows named (sg4T (pfo d) its ((d + 1 : Nat) : Int)) (by simp) ?_
   have hg := sg_loop (pfo d) (.mk 4 0 [] [] its) ((d + 1 : Nat) : Int) (by omega) (fun x _ => pfo_bd d x) (fun x hx => by rw [show ((d + 1 : Nat) : Int) - 1 = (d : Nat) by omega]; exact ih x (by omega) (h x hx)) (fun h => by cases h) (fun s hs => by cases hs) hl its.length 1 0 (by simp [J.items]) (by omega) (by omega)
   have ep : pfo (d + 1) (.mk 4 0 [] [] its) = match sokI (pfo d) (.mk 4 0 [] [] its) its.length 1 0 with | some v => (v, true) | none => (0, false) := rfl
   rw [ep]
   simp only [WP_cond, T.WP, All, and_true, beq_iff_eq, beq_eq_false_iff_ne, ne_eq]
   refine ⟨fun h => by omega, fun _ => ?_⟩
   rintro y rfl
   have ey : sokI (pfo d) (.mk 4 0 [] [] its) (J.mk 4 0 [] [] its).items.length 1 0 = sokI (pfo d) (.mk 4 0 [] [] its) its.length 1 0 := rfl
   rw [ey]
   cases hy : sokI (pfo d) (.mk 4 0 [] [] its) its.length 1 0 with
   | none =>
    rw [hy] at hg
    exact ⟨trivial, fun h => (by cases h), fun _ => ⟨.loopTo hg, ⟨rfl, rfl, by simp⟩⟩⟩
   | some v =>
    rw [hy] at hg
    exact ⟨trivial, fun _ => ⟨.loopTo hg, ⟨rfl, rfl, by simp⟩⟩, fun h => (by cases h)⟩
  | @obj ks its h hl hk hs =>
   refine fnOK_TL (E := { P := Tryz.prog, vw := vwA, res := resSG (pfo d), ls := lsOg (pfo d) (J.mk 5 0 [] ks its) ((d + 1 : Nat) : Int) }) follows named (sg5T (pfo d) ks its ((d + 1 : Nat) : Int)) (by simp) ?_
   have hg := sg_loop (pfo d) (.mk 5 0 [] ks its) ((d + 1 : Nat) : Int) (by omega) (fun x _ => pfo_bd d x) (fun x hx => by rw [show ((d + 1 : Nat) : Int) - 1 = (d : Nat) by omega]; exact ih x (by omega) (h x hx)) (fun _ => hk) hs hl its.length 1 0 (by simp [J.items]) (by omega) (by omega)
   have ep : pfo (d + 1) (.mk 5 0 [] ks its) = match sokI (pfo d) (.mk 5 0 [] ks its) its.length 1 0 with | some v => (v, true) | none => (0, false) := rfl
   rw [ep]
   have ey : sokI (pfo d) (.mk 5 0 [] ks its) (J.mk 5 0 [] ks its).items.length 1 0 = sokI (pfo d) (.mk 5 0 [] ks its) its.length 1 0 := rfl
   have e5 : (((J.mk 5 0 [] ks its).keys.length : Nat) : Int) = (((J.mk 5 0 [] ks its).items.length : Nat) : Int) := by show ((ks.length : Nat) : Int) = ((its.length : Nat) : Int); omega
   simp only [WP_cond, T.WP, All, and_true, beq_iff_eq, beq_eq_false_iff_ne, ne_eq, bne_iff_ne, bne_eq_false_iff_eq, ne_eq]
   rw [ey]
   refine ⟨fun h => by omega, fun _ => ⟨fun _ => ⟨fun h => absurd e5 h, fun _ => ?_⟩, fun _ => ⟨fun h => absurd e5 h, fun _ => ?_⟩⟩⟩
   ·rintro y rfl
    cases hy : sokI (pfo d) (.mk 5 0 [] ks its) its.length 1 0 with
    | none =>
     rw [hy] at hg
     exact ⟨trivial, fun h => (by cases h), fun _ => ⟨.loopTo hg, ⟨rfl, rfl, by simp⟩⟩⟩
    | some v =>
     rw [hy] at hg
     exact ⟨trivial, fun _ => ⟨.loopTo hg, ⟨rfl, rfl, by simp⟩⟩, fun h => (by cases h)⟩
   ·rintro y rfl
    cases hy : sokI (pfo d) (.mk 5 0 [] ks its) its.length 1 0 with
    | none =>
     rw [hy] at hg
     exact ⟨trivial, fun h => (by cases h), fun _ => ⟨.loopTo hg, ⟨rfl, rfl, by simp⟩⟩⟩
    | some v =>
     rw [hy] at hg
     exact ⟨trivial, fun _ => ⟨.loopTo hg, ⟨rfl, rfl, by simp⟩⟩, fun h => (by cases h)⟩
end Go.Proofs.YtfncaghjfgnnhaaGreatDoor

namespace Go.Proofs.YtfncaghjfgnnhaaGreatDoor
open Go.RowKit
set_option maxRecDepth 100000
abbrev fSParse : Nat := 23
abbrev fSParseJ : Nat := 6
def sVal0 (t : List UInt8) : J × SS := sVal 12 ⟨t, 0, true⟩
def sPar (t : List UInt8) : J × Bool := bif (sVal0 t).2.ok && (skp (sVal0 t).2.s).isEmpty && (pfo 12 (sVal0 t).1).2 then ((sVal0 t).1, true) else (J.zero, false)
noncomputable def resSPa : ResT := fun f vs hp => match vs, hp with
 | [.ptr 0 0], [some ([.str t, .int _ i, .int _ n, .bool ok], _)] => bif Nat.beq f fSBlk then some ⟨skp (t.drop i.toNat), fun y => ⟨.tup [], [ssB t ⟨y, n, ok⟩], [0]⟩⟩ else none
 | [.ptr 0 0, .int _ _], [some ([.str t, .int _ _, .int _ _, .bool _], _)] => bif Nat.beq f fSVal then some ⟨sVal0 t, fun y => ⟨.agg (vwJ y.1), [ssB t y.2], [0]⟩⟩ else none
 | [.agg [.int _ k, .int _ n, .str t, .dsl _ _ ks, .dsl _ _ its], .int _ _], [] => bif Nat.beq f fSOK then some ⟨pfo 12 (jOf k n t ks its), fun y => ⟨.tup [.int .i64 y.1, .bool y.2], [], []⟩⟩ else none
 | [.agg [.int _ k, .int _ n, .str t, .dsl _ _ ks, .dsl _ _ its]], [] => bif Nat.beq f fSJOK then some ⟨(pfo 12 (jOf k n t ks its)).2, fun y => ⟨.bool y, [], []⟩⟩ else none
 | [.str t], [] => bif Nat.beq f fSParse then some ⟨sPar t, fun y => ⟨.tup [.agg (vwJ y.1), .bool y.2], [], []⟩⟩ else none
 | _, _ => none
noncomputable def ESPa : Env := { P := Tryz.prog, vw := vwA, res := resSPa }
--FOLD vwJ sdI ssB
set_option maxRecDepth 100000 in
theorem spjokT (j : J) : fnT ESPa 0 fSJOK [.agg (vwJ j)] [] = (
 .bind (pfo 12 (jOf (J.kind j) (J.n j) (J.t j) (encs encStr (J.keys j)) (encs encJ (J.items j)))) fun y0 => .need [FnOK (Env.P ESPa) 40 [.agg (vwJ j), .int .i64 12] [] (Ret.mk (.tup [.int .i64 y0.1, .bool y0.2]) [] [])] (.done (Ret.mk (.bool
 y0.2) [] [])) : T _) := (T.force_eq _).symm.trans (by kernel_rfl)
set_option maxRecDepth 100000 in
theorem sparseT (t : List UInt8) : fnT ESPa 0 fSParse [.str t] [] = (
 .bind (sVal0 t) fun y0 => .need [FnOK (Env.P ESPa) 45 [.ptr 0 0, .int .i64 12] [sdI t (0 : Int) (0 : Int) true] (Ret.mk (.agg (vwJ y0.1)) [sdI t (↑(pos' t (SS.s y0.2)) : Int) (SS.n y0.2) (SS.ok y0.2)] [0])] (.bind (skp (List.drop (Int.toNat
 (↑(pos' t (SS.s y0.2)) : Int)) t)) fun y1 => .need [FnOK (Env.P ESPa) 46 [.ptr 0 0] [sdI t (↑(pos' t (SS.s y0.2)) : Int) (SS.n y0.2) (SS.ok y0.2)] (Ret.mk (.tup []) [sdI t (↑(pos' t (SS.s (SS.mk y1 (SS.n y0.2) (SS.ok y0.2)))) : Int) (SS.n
 (SS.mk y1 (SS.n y0.2) (SS.ok y0.2))) (SS.ok (SS.mk y1 (SS.n y0.2) (SS.ok y0.2)))] [0])] (bif !SS.ok (SS.mk y1 (SS.n y0.2) (SS.ok y0.2)) then .done (Ret.mk (.tup [.agg [.int .i64 0, .int .i64 0, .str [], .dsl 0 false [], .dsl 0 false []],
 .bool false]) [] []) else bif (↑(pos' t (SS.s (SS.mk y1 (SS.n y0.2) (SS.ok y0.2)))) : Int) != (↑t.length : Int) then .done (Ret.mk (.tup [.agg [.int .i64 0, .int .i64 0, .str [], .dsl 0 false [], .dsl 0 false []], .bool false]) [] []) else
 .bind (Prod.snd (pfo 12 (jOf (J.kind y0.1) (J.n y0.1) (J.t y0.1) (encs encStr (J.keys y0.1)) (encs encJ (J.items y0.1))))) fun y2 => .need [FnOK (Env.P ESPa) 35 [.agg (vwJ y0.1)] [] (Ret.mk (.bool y2) [] [])] (bif !y2 then .done (Ret.mk
 (.tup [.agg [.int .i64 0, .int .i64 0, .str [], .dsl 0 false [], .dsl 0 false []], .bool false]) [] []) else .done (Ret.mk (.tup [.agg (vwJ y0.1), .bool true]) [] [])))) : T _) := (T.force_eq _).symm.trans (by kernel_rfl)
set_option maxRecDepth 100000 in
theorem sparseJT (t : List UInt8) : fnT ESPa 0 fSParseJ [.str t] [] = (
 bif decide ((↑t.length : Int) > 65536) then .done (Ret.mk (.tup [.agg [.int .i64 0, .int .i64 0, .str [], .dsl 0 false [], .dsl 0 false []], .int .i64 2]) [] []) else .bind (sPar t) fun y0 => .need [FnOK (Env.P ESPa) 23 [.str t] [] (Ret.mk
 (.tup [.agg (vwJ y0.1), .bool y0.2]) [] [])] (bif !y0.2 then .done (Ret.mk (.tup [.agg [.int .i64 0, .int .i64 0, .str [], .dsl 0 false [], .dsl 0 false []], .int .i64 3]) [] []) else .done (Ret.mk (.tup [.agg (vwJ y0.1), .int .i64 0]) []
 [])) : T _) := by kernel_rfl
theorem sjokP_ok (j : J) (h : PF j) : FnOK Tryz.prog fSJOK [.agg (vwJ j)] [] ⟨.bool (pfo 12 j).2, [], []⟩ := by
 refine fnOK_TL (E := ESPa) follows named (spjokT j) (by simp) ?_
 simp only [T.WP, All, and_true, jOf_vw]
 rintro y rfl
 exact ⟨pfo_ok 12 j (by omega) h, ⟨rfl, rfl, by simp⟩⟩
theorem sparse_ok (t : List UInt8) (ht : t.length ≤ 65536) (hpf : PF (sVal0 t).1) : FnOK Tryz.prog fSParse [.str t] [] ⟨.tup [.agg (vwJ (sPar t).1), .bool (sPar t).2], [], []⟩ := by
 refine fnOK_TL (E := ESPa) follows named (sparseT t) (by simp) ?_
 simp only [WP_cond, T.WP, All, and_true]
 have hv := (svalue_ok (t := t) (by omega) 12 (by omega)).run ⟨t, 0, true⟩ ⟨List.suffix_refl _, by show (0 : Int) ≤ 0; omega, by show (0 : Int) ≤ 400; omega⟩
 have hs : (sVal0 t).2.s <:+ t := (sVal_out 12 ⟨t, 0, true⟩ (by show (0 : Int) ≤ 0; omega) (by show (0 : Int) ≤ 400; omega)).suf
 have e0 : sdI t (0 : Int) 0 true = ssB t ⟨t, 0, true⟩ := by
  unfold ssB pos'; simp
 have ec : sPar t = bif (sVal0 t).2.ok && (skp (sVal0 t).2.s).isEmpty && (pfo 12 (sVal0 t).1).2 then ((sVal0 t).1, true) else (J.zero, false) := rfl
 have hk : skp (sVal0 t).2.s <:+ t := skp_suf hs
 rintro y rfl
 rw [e0]
 refine ⟨hv, ?_⟩
 rw [Int.toNat_natCast, drop_pos hs]
 rintro y rfl
 simp only [jOf_vw, bne_iff_ne, bne_eq_false_iff_eq, ne_eq]
 refine ⟨sblk_ok (by omega) hs _ _, fun h => ?_, fun h => ⟨fun h2 => ?_, fun h2 => ?_⟩⟩
 ·have h : (sVal0 t).2.ok = false := by simpa using h
  rw [ec, h]; exact ⟨rfl, rfl, by simp⟩
 ·have h : (sVal0 t).2.ok = true := by simpa using h
  have : (skp (sVal0 t).2.s).isEmpty = false := by
   cases hh : skp (sVal0 t).2.s with
   | nil => rw [hh] at h2; unfold pos' at h2; simp at h2
   | cons c s => rfl
  rw [ec, h, this]; exact ⟨rfl, rfl, by simp⟩
 ·have h : (sVal0 t).2.ok = true := by simpa using h
  have he : (skp (sVal0 t).2.s).isEmpty = true := by
   have l := hk.length_le
   unfold pos' at h2
   exact List.isEmpty_iff.2 (List.eq_nil_of_length_eq_zero (by omega))
  rintro y rfl
  refine ⟨sjokP_ok _ hpf, fun h3 => ?_, fun h3 => ?_⟩
  ·have h3 : (pfo 12 (sVal0 t).1).2 = false := by simpa using h3
   rw [ec, h, he, h3]; exact ⟨rfl, rfl, by simp⟩
  ·have h3 : (pfo 12 (sVal0 t).1).2 = true := by simpa using h3
   rw [ec, h, he, h3]; exact ⟨rfl, rfl, by simp⟩
end Go.Proofs.YtfncaghjfgnnhaaGreatDoor

namespace Go.Proofs.YtfncaghjfgnnhaaGreatDoor
open Go.RowKit
set_option maxRecDepth 100000
theorem noNm_nil : NoNm [] := fun c t e => by cases e
end Go.Proofs.YtfncaghjfgnnhaaGreatDoor

namespace Go.Proofs.YtfncaghjfgnnhaaGreatDoor
open Go.RowKit
set_option maxRecDepth 100000
theorem escL_app (a b : List UInt8) : escL (a ++ b) = escL a ++ escL b := by unfold escL; rw [List.flatMap_append]
theorem escL_sn (W : List UInt8) (c : UInt8) : (escL (W ++ [c])).length = (escL W).length + (escB c).length := by rw [escL_app]; simp [escL]
theorem escB_le (c : UInt8) : (escB c).length ≤ 2 := by
 unfold escB
 by_cases h1 : c = 34
 ·rw [if_pos h1]; simp
 ·rw [if_neg h1]
  by_cases h2 : c = 92
  ·rw [if_pos h2]; simp
  ·rw [if_neg h2]; simp
theorem escB_o {c : UInt8} (h1 : c ≠ 34) (h2 : c ≠ 92) : (escB c).length = 1 := by unfold escB; rw [if_neg h1, if_neg h2]; rfl
theorem txt_fwd : ∀ (n : Nat) (s W w s' : List UInt8), s.length ≤ n → txtR s W = some (w, false, s') →
  W.length ≤ w.length ∧ plainT w = true ∧ (escL w).length + 1 + s'.length ≤ s.length + (escL W).length ∧ stxR s W = (w, true, s')
 | n, [], W, w, s', _, h => by simp [txtR] at h
 | 0, c :: s, W, w, s', hn, h => by simp at hn
 | n + 1, c :: s, W, w, s', hn, h => by
  simp only [List.length_cons] at hn
  by_cases h1 : c = 34
  ·subst h1
   rw [txtR_q] at h
   simp only [Option.some.injEq, Prod.mk.injEq, Bool.not_eq_false'] at h
   obtain ⟨rfl, hp, rfl⟩ := h
   exact ⟨Nat.le_refl _, hp, by simp only [List.length_cons]; omega, stxR_q _ (by have := plainT_len hp; omega)⟩
  ·by_cases h2 : c = 92
   ·subst h2
    cases s with
    | nil => rw [txtR_e1] at h; simp at h
    | cons d s =>
     rw [txtR_e2] at h
     cases hd : escC d with
     | false => rw [hd] at h; simp at h
     | true =>
      rw [hd, if_pos rfl] at h
      obtain ⟨q1, q2, q3, q4⟩ := txt_fwd n s (W ++ [d]) w s' (by simp at hn; omega) h
      simp only [List.length_append, List.length_singleton] at q1
      have hl := plainT_len q2
      have he := escB_le d
      rw [escL_sn] at q3
      refine ⟨by omega, q2, by simp only [List.length_cons]; omega, ?_⟩
      rw [stxR_e2 _ _ (by omega), hd, if_pos rfl]; exact q4
   ·rw [txtR_o _ _ h1 h2] at h
    obtain ⟨q1, q2, q3, q4⟩ := txt_fwd n s (W ++ [c]) w s' (by omega) h
    simp only [List.length_append, List.length_singleton] at q1
    have hl := plainT_len q2
    rw [escL_sn, escB_o h1 h2] at q3
    refine ⟨by omega, q2, by simp only [List.length_cons]; omega, ?_⟩
    rw [stxR_o _ (by omega) h1 h2]; exact q4
theorem txt_bwd : ∀ (n : Nat) (s W w s' : List UInt8), s.length ≤ n → stxR s W = (w, true, s') → txtR s W = some (w, !plainT w, s')
 | n, [], W, w, s', _, h => by simp [stxR] at h
 | 0, c :: s, W, w, s', hn, h => by simp at hn
 | n + 1, c :: s, W, w, s', hn, h => by
  simp only [List.length_cons] at hn
  by_cases hl : 200 < W.length
  ·rw [stxR_long c s hl] at h; simp at h
  by_cases h1 : c = 34
  ·subst h1
   rw [stxR_q _ hl] at h
   simp only [Prod.mk.injEq, true_and] at h
   obtain ⟨rfl, rfl⟩ := h
   rw [txtR_q]
  ·by_cases h2 : c = 92
   ·subst h2
    cases s with
    | nil => rw [stxR_e1 hl] at h; simp at h
    | cons d s =>
     rw [stxR_e2 _ _ hl] at h
     cases hd : escC d with
     | false => rw [hd] at h; simp at h
     | true =>
      rw [hd, if_pos rfl] at h
      rw [txtR_e2, hd, if_pos rfl]
      exact txt_bwd n s _ w s' (by simp at hn; omega) h
   ·rw [stxR_o _ hl h1 h2] at h
    rw [txtR_o _ _ h1 h2]
    exact txt_bwd n s _ w s' (by omega) h
theorem txtE_fwd {s w s' : List UInt8} (h : txtE false s = (w, false, s')) : plainT w = true ∧ (escL w).length + 1 + s'.length ≤ s.length ∧ stxE true s = (w, true, s') := by
 unfold txtE at h
 simp only [cond_false] at h
 cases hq : txtR s [] with
 | none => rw [hq] at h; simp at h
 | some y =>
  rw [hq] at h
  simp only [Option.getD_some] at h
  rw [h] at hq
  obtain ⟨_, q2, q3, q4⟩ := txt_fwd s.length s [] w s' (Nat.le_refl _) hq
  exact ⟨q2, by simpa [escL] using q3, q4⟩
theorem txtE_bwd {s w s' : List UInt8} (h : stxE true s = (w, true, s')) (hp : plainT w = true) : txtE false s = (w, false, s') := by
 have := txt_bwd s.length s [] w s' (Nat.le_refl _) h
 unfold txtE
 simp [this, hp]
theorem dgC_of {v : Nat} (h : v < 10) : dgC (UInt8.ofNat (48 + v)) = true ∧ (UInt8.ofNat (48 + v)).toNat - 48 = v ∧ ((UInt8.ofNat (48 + v)) = 48 → v = 0) := by
 have e : (UInt8.ofNat (48 + v)).toNat = 48 + v := by rw [UInt8.toNat_ofNat']; omega
 refine ⟨?_, by omega, fun h0 => ?_⟩
 ·unfold dgC; rw [e]; unfold dgtI; simp; omega
 ·rw [← UInt8.toNat_inj, e] at h0
  have : (48 : UInt8).toNat = 48 := rfl
  omega
theorem of_dgC {c : UInt8} (h : dgC c = true) : c = UInt8.ofNat (48 + (c.toNat - 48)) ∧ c.toNat - 48 < 10 := by
 have := dgC_bd h
 refine ⟨?_, by omega⟩
 rw [show 48 + (c.toNat - 48) = c.toNat by omega, UInt8.ofNat_toNat]
theorem dgV_dec : ∀ (k u : Nat), u < 10 ^ (k + 1) → dgV (Lib.decDigits u) = u ∧ (∀ c ∈ Lib.decDigits u, dgC c = true) ∧ 1 ≤ (Lib.decDigits u).length ∧ (Lib.decDigits u).length ≤ k + 1 ∧ ((Lib.decDigits u).getD 0 0 = 48 → u = 0) ∧ (u < 10 → (Lib.decDigits u).length = 1) := by
 intro k
 have one : ∀ v, v < 10 → Lib.decDigits v = [UInt8.ofNat (48 + v)] := fun v hv => by rw [Lib.decDigits, dif_pos hv]
 have g1 : ∀ v, v < 10 → dgV (Lib.decDigits v) = v ∧ (∀ c ∈ Lib.decDigits v, dgC c = true) ∧ ((Lib.decDigits v).getD 0 0 = 48 → v = 0) := fun v hv => by
  obtain ⟨a, b, c⟩ := dgC_of hv
  rw [one v hv]
  refine ⟨?_, fun x hx => by rw [List.mem_singleton] at hx; rw [hx]; exact a, fun h => c (by simpa using h)⟩
  unfold dgV
  simp only [List.foldl_cons, List.foldl_nil, b]; omega
 induction k with
 | zero =>
  intro u h
  have hu : u < 10 := by simpa using h
  obtain ⟨a, b, c⟩ := g1 u hu
  rw [one u hu] at a b c ⊢
  exact ⟨a, b, by simp, by simp, c, fun _ => by simp⟩
 | succ k ih =>
  intro u h
  by_cases hu : u < 10
  ·obtain ⟨a, b, c⟩ := g1 u hu
   rw [one u hu] at a b c ⊢
   exact ⟨a, b, by simp, by simp, c, fun _ => by simp⟩
  ·obtain ⟨h1, h2, h3, h4, h5, h6⟩ := ih (u / 10) (by rw [Nat.pow_succ] at h; omega)
   obtain ⟨a, b, c⟩ := dgC_of (v := u % 10) (by omega)
   rw [Lib.decDigits, dif_neg hu]
   refine ⟨?_, fun x hx => ?_, by simp, by simp; omega, fun h0 => ?_, fun h => absurd h hu⟩
   ·rw [dgV_snoc, h1, b]; omega
   ·rcases List.mem_append.1 hx with hx | hx
    ·exact h2 x hx
    ·rw [List.mem_singleton] at hx; rw [hx]; exact a
   ·have : (Lib.decDigits (u / 10) ++ [UInt8.ofNat (48 + u % 10)]).getD 0 0 = (Lib.decDigits (u / 10)).getD 0 0 := by
     cases hh : Lib.decDigits (u / 10) with
     | nil => rw [hh] at h3; simp at h3
     | cons c s => rfl
    rw [this] at h0
    have := h5 h0
    omega
theorem dec_dgV : ∀ (n : Nat) (ds : List UInt8), ds.length = n + 1 → (∀ c ∈ ds, dgC c = true) → (ds.getD 0 0 = 48 → ds.length = 1) → Lib.decDigits (dgV ds) = ds := by
 intro n
 induction n with
 | zero =>
  intro ds hl hd _
  obtain ⟨c, rfl⟩ : ∃ c, ds = [c] := List.length_eq_one_iff.1 hl
  obtain ⟨a, b⟩ := of_dgC (hd c (by simp))
  have e : dgV [c] = c.toNat - 48 := by unfold dgV; simp
  rw [e, Lib.decDigits, dif_pos b, ← a]
 | succ n ih =>
  intro ds hl hd h0
  have hne : ds ≠ [] := by intro e; rw [e] at hl; simp at hl
  have es := List.dropLast_concat_getLast hne
  generalize ds.dropLast = l at *
  generalize ds.getLast hne = c at *
  subst es
  simp only [List.length_append, List.length_singleton] at hl h0
  have hl' : l.length = n + 1 := by omega
  have hh : (l ++ [c]).getD 0 0 = l.getD 0 0 := by
   cases l with
   | nil => simp at hl'
   | cons a l => rfl
  have h48 : l.getD 0 0 ≠ 48 := fun e => by have := h0 (by rw [hh]; exact e); omega
  have hi := ih l hl' (fun x hx => hd x (by simp [hx])) (fun e => absurd e h48)
  obtain ⟨a, b⟩ := of_dgC (hd c (by simp))
  have hv : dgV l ≠ 0 := fun e => by
   rw [e] at hi
   have e0 : Lib.decDigits 0 = [48] := by rw [Lib.decDigits, dif_pos (by omega)]; rfl
   rw [e0] at hi
   rw [← hi] at h48
   exact h48 rfl
  rw [dgV_snoc, Lib.decDigits, dif_neg (by omega)]
  rw [show (dgV l * 10 + (c.toNat - 48)) / 10 = dgV l by omega, show (dgV l * 10 + (c.toNat - 48)) % 10 = c.toNat - 48 by omega, hi, ← a]
theorem dgC_nm {c : UInt8} (h : dgC c = true) : nmC c = true := nmC_dgt h
theorem noNm_dg {s : List UInt8} (h : NoNm s) : ∀ c t, s = c :: t → dgC c = false := fun c t e => by
 cases hc : dgC c with
 | false => rfl
 | true => have := h c t e; rw [dgC_nm hc] at this; cases this
theorem noNm_drop : ∀ s : List UInt8, NoNm (s.dropWhile nmC)
 | [] => noNm_nil
 | c :: s => by
  cases hc : nmC c with
  | true => rw [List.dropWhile_cons_of_pos hc]; exact noNm_drop s
  | false => rw [List.dropWhile_cons_of_neg (by rw [hc]; simp)]; exact noNm_cons s hc
theorem rdN_inv {s : List UInt8} {v : Int} (h : rdN s = (v, true)) : Lib.itoa v = s := by
 unfold rdN at h
 cases hc : ((atoiV s).2 && (Lib.itoa (atoiV s).1 == s) && decide ((trimP [45] s).length ≤ 18)) with
 | false => rw [hc] at h; simp at h
 | true =>
  rw [hc] at h
  simp only [cond_true, Prod.mk.injEq, and_true] at h
  rw [Bool.and_eq_true, Bool.and_eq_true, beq_iff_eq] at hc
  rw [← h]; exact hc.1.2
theorem itoa_neg {v : Int} (h : v < 0) : Lib.itoa v = 45 :: Lib.decDigits v.natAbs := by unfold Lib.itoa; rw [if_pos h]
theorem itoa_pos {v : Int} (h : ¬ v < 0) : Lib.itoa v = Lib.decDigits v.toNat := by unfold Lib.itoa; rw [if_neg h]
theorem snum_of {v : Int} (hv : -1000000000 ≤ v ∧ v ≤ 1000000000) {rest : List UInt8} (hr : NoNm rest) : snV (Lib.itoa v ++ rest) = (v, true) ∧ snR (Lib.itoa v ++ rest) = rest := by
 by_cases h0 : v < 0
 ·rw [itoa_neg h0]
  obtain ⟨a, b, c, d, e, f⟩ := dgV_dec 9 v.natAbs (by omega)
  have hs : snD (45 :: Lib.decDigits v.natAbs ++ rest) = (true, Lib.decDigits v.natAbs, rest) := by
   obtain ⟨t1, t2⟩ := takeW_app (p := dgC) (Lib.decDigits v.natAbs) rest b (noNm_dg hr)
   rw [List.cons_append, snD, if_pos rfl, t1, t2]
  unfold snV snR
  rw [hs]
  refine ⟨?_, rfl⟩
  have hn : ¬ ((Lib.decDigits v.natAbs).length = 0 ∨ 18 < (Lib.decDigits v.natAbs).length ∨ ((Lib.decDigits v.natAbs).getD 0 0 = 48 ∧ (1 < (Lib.decDigits v.natAbs).length ∨ true = true))) := by
   rintro (h | h | ⟨h, _⟩)
   ·omega
   ·omega
   ·have := e h; omega
  show l0N true (Lib.decDigits v.natAbs) = _
  unfold l0N
  rw [if_neg hn, a, if_pos rfl, show -((v.natAbs : Nat) : Int) = v by omega]
 ·rw [itoa_pos h0]
  obtain ⟨a, b, c, d, e, f⟩ := dgV_dec 9 v.toNat (by omega)
  have hs : snD (Lib.decDigits v.toNat ++ rest) = (false, Lib.decDigits v.toNat, rest) := by
   obtain ⟨t1, t2⟩ := takeW_app (p := dgC) (Lib.decDigits v.toNat) rest b (noNm_dg hr)
   cases hh : Lib.decDigits v.toNat with
   | nil => rw [hh] at c; simp at c
   | cons x l =>
    rw [hh] at t1 t2 b
    have hx := (dgt_ne (b x (by simp))).1
    rw [List.cons_append] at t1 t2 ⊢
    rw [snD, if_neg hx, t1, t2]
  unfold snV snR
  rw [hs]
  refine ⟨?_, rfl⟩
  have hn : ¬ ((Lib.decDigits v.toNat).length = 0 ∨ 18 < (Lib.decDigits v.toNat).length ∨ ((Lib.decDigits v.toNat).getD 0 0 = 48 ∧ (1 < (Lib.decDigits v.toNat).length ∨ false = true))) := by
   rintro (h | h | ⟨h, h1 | h1⟩)
   ·omega
   ·omega
   ·have := e h; have := f (by omega); omega
   ·cases h1
  show l0N false (Lib.decDigits v.toNat) = _
  unfold l0N
  rw [if_neg hn, a, if_neg (by simp), show ((v.toNat : Nat) : Int) = v by omega]
theorem inB_iff {v : Int} : inB v (-1000000000) 1000000000 = true ↔ -1000000000 ≤ v ∧ v ≤ 1000000000 := by unfold inB; simp
theorem num_fwd {s : List UInt8} {v : Int} (h : rdN (s.takeWhile nmC) = (v, true)) (hb : inB v (-1000000000) 1000000000 = true) :
  snV s = (v, true) ∧ snR s = s.dropWhile nmC ∧ (dg v).length + (s.dropWhile nmC).length = s.length := by
 have hv := inB_iff.1 hb
 have e := rdN_inv h
 have es : Lib.itoa v ++ s.dropWhile nmC = s := by rw [e]; exact List.takeWhile_append_dropWhile
 have hq := snum_of hv (noNm_drop s)
 rw [es] at hq
 refine ⟨hq.1, hq.2, ?_⟩
 rw [← itoa_dg v (by omega), ← List.length_append, es]
theorem num_bwd {s : List UInt8} {v : Int} (h : snV s = (v, true)) (hv : -1000000000 ≤ v ∧ v ≤ 1000000000) (hr : NoNm (snR s)) : nmB false s = false := by
 have hd := snD_dg s
 have ha := snD_app s
 unfold snV at h
 unfold snR at hr
 generalize (snD s).1 = neg at *
 generalize (snD s).2.1 = ds at *
 generalize (snD s).2.2 = rest at *
 unfold l0N at h
 by_cases hc : ds.length = 0 ∨ 18 < ds.length ∨ (ds.getD 0 0 = 48 ∧ (1 < ds.length ∨ neg = true))
 ·rw [if_pos hc] at h; simp at h
 rw [if_neg hc] at h
 simp only [Prod.mk.injEq, and_true] at h
 have hlen : ds.length = (ds.length - 1) + 1 := by omega
 have hcan := dec_dgV _ ds hlen hd (fun h0 => by
  by_cases h1 : 1 < ds.length
  ·exact absurd (.inr (.inr ⟨h0, .inl h1⟩)) hc
  ·omega)
 have ei : l0S neg ds = Lib.itoa v := by
  cases neg with
  | true =>
   rw [if_pos rfl] at h
   have h48 : ds.getD 0 0 ≠ 48 := fun h0 => hc (.inr (.inr ⟨h0, .inr rfl⟩))
   have hne : dgV ds ≠ 0 := fun e => by
    rw [e] at hcan
    have e0 : Lib.decDigits 0 = [48] := by rw [Lib.decDigits, dif_pos (by omega)]; rfl
    rw [e0] at hcan
    rw [← hcan] at h48
    exact h48 rfl
   rw [itoa_neg (by omega), show v.natAbs = dgV ds by omega, hcan]
   rfl
  | false =>
   rw [if_neg (by simp)] at h
   rw [itoa_pos (by omega), show v.toNat = dgV ds by omega, hcan]
   rfl
 have e1 := itoa_dg v (by omega)
 obtain ⟨t1, t2⟩ := takeW_app (p := nmC) (dg v) rest (dgOK v hv).nm hr
 rw [ei, e1] at ha
 unfold nmB
 rw [ha, t1, rdN_dg v hv]
 have : inB v (-1000000000) 1000000000 = true := inB_iff.2 hv
 rw [this]; rfl
end Go.Proofs.YtfncaghjfgnnhaaGreatDoor

namespace Go.Proofs.YtfncaghjfgnnhaaGreatDoor
open Go.RowKit
set_option maxRecDepth 100000
theorem rightJs_all {d : Int} : ∀ (L : List J), (∀ x ∈ L, ∀ room : Int, (jn x : Int) ≤ room → rightJ x d room = (true, room - jn x)) → ∀ room : Int, (jns L : Int) ≤ room → rightJs L d room = (true, room - jns L)
 | [], _, room, _ => by rw [rightJs]; simp [jns]
 | x :: xs, h, room, hr => by
  rw [jns] at hr ⊢
  have h1 := h x (by simp) room (by omega)
  rw [rightJs, h1, if_pos rfl, rightJs_all xs (fun y hy => h y (by simp [hy])) _ (by omega)]
  simp only [Prod.mk.injEq, true_and]; omega
theorem rdJ : ∀ (n : Nat) (j : J) (d : Int), jn j ≤ n → RD j d → ∀ room : Int, (jn j : Int) ≤ room → rightJ j d room = (true, room - jn j)
 | 0, j, d, hn, h, room, hr => by rw [jn_eq] at hn; omega
 | n + 1, j, d, hn, h, room, hr => by
  obtain ⟨hp, hd⟩ := h.part
  have hj := jn_eq j
  rw [rightJ_eq, if_neg (by rw [hp]; simp; omega)]
  rw [rightJs_all j.items (fun x hx room hr => rdJ n x (d + 1) (by have := jns_mem x hx; omega) (h.item x hx) room hr) _ (by omega)]
  simp only [Prod.mk.injEq, true_and]; omega
theorem RD.at' {j : J} {d : Int} (h : RD j d) (room : Int) (hr : (jn j : Int) ≤ room) : rightJ j d room = (true, room - jn j) := rdJ _ j d (Nat.le_refl _) h room hr
theorem RD.mk' {j : J} {d : Int} (hd : d < 12) (hp : partJ j = true) (hi : ∀ x ∈ j.items, RD x (d + 1)) : RD j d := by
 refine ⟨jn j, by omega, ?_⟩
 have hj := jn_eq j
 rw [rightJ_eq, if_neg (by rw [hp]; simp; omega), rightJs_all j.items (fun x hx room hr => (hi x hx).at' room hr) _ (by omega)]
theorem RD.okj {j : J} (h : RD j 0) (hn : jn j ≤ 400) : okJ j = true := by unfold okJ; rw [h.at' 400 (by omega)]
theorem jns_drop {L : List J} {i : Nat} (h : i < L.length) : jns (L.drop i) = jn (L.getD i J.zero) + jns (L.drop (i + 1)) := by rw [j_drop h, jns]
theorem sok_all (f : J → Int × Bool) (j : J) (hk : ∀ i, i < j.items.length → kBad j i = false) (hf : ∀ x ∈ j.items, f x = (((jn x : Nat) : Int), true)) : ∀ (m : Nat) (n : Nat) (i : Nat), i + m = j.items.length → n + jns (j.items.drop i) ≤ 400 → sokI f j m n i = some ((n + jns (j.items.drop i) : Nat) : Int)
 | 0, n, i, hi, h => by
  obtain rfl : i = j.items.length := hi
  rw [sokI, List.drop_length]; simp [jns]
 | m + 1, n, i, hi, h => by
  have hl : i < j.items.length := by omega
  rw [jns_drop hl] at h ⊢
  have e := hf _ (j_mem hl)
  rw [sokI, hk i hl, e]
  have : decide ((400 : Int) < (n : Nat) + (jn (j.items.getD i J.zero) : Nat)) = false := decide_eq_false (by omega)
  simp only [this, Bool.not_true, Bool.or_false, cond_false]
  have ih := sok_all f j hk hf m (n + jn (j.items.getD i J.zero)) (i + 1) (by omega) (by omega)
  rw [show ((n : Nat) : Int) + (jn (j.items.getD i J.zero) : Nat) = ((n + jn (j.items.getD i J.zero) : Nat) : Int) by omega, ih]
  congr 2; omega
theorem sok_inv (f : J → Int × Bool) (j : J) : ∀ (m : Nat) (n : Int) (i : Nat) (v : Int), i + m = j.items.length → sokI f j m n i = some v → ∀ i', i ≤ i' → i' < j.items.length → kBad j i' = false ∧ (f (j.items.getD i' J.zero)).2 = true
 | 0, n, i, v, hi, h, i', h1, h2 => by omega
 | m + 1, n, i, v, hi, h, i', h1, h2 => by
  rw [sokI] at h
  cases hc : (kBad j i || (!(f (j.items.getD i J.zero)).2 || decide (400 < n + (f (j.items.getD i J.zero)).1))) with
  | true => rw [hc] at h; cases h
  | false =>
   rw [hc] at h
   rw [Bool.or_eq_false_iff, Bool.or_eq_false_iff] at hc
   by_cases e : i' = i
   ·rw [e]; exact ⟨hc.1, by simpa using hc.2.1⟩
   ·exact sok_inv f j m _ (i + 1) v (by omega) h i' (by omega) h2
theorem kBad_key (ks : List (List UInt8)) (its : List J) (i : Nat) : kBad (.mk 5 0 [] ks its) i = !keyG ks i := by
 unfold kBad keyG
 have : (J.mk 5 0 [] ks its).kind == 5 := rfl
 rw [this]
 show (true && (!plainT (ks.getD i []) || (decide (0 < i) && !Op.bytesLess (ks.getD (i - 1) []) (ks.getD i [])))) = _
 by_cases h : i = 0
 ·subst h; simp
 ·have : (i == 0) = false := by simpa using h
  rw [this, decide_eq_true (by omega : 0 < i)]
  cases plainT (ks.getD i []) <;> cases Op.bytesLess (ks.getD (i - 1) []) (ks.getD i []) <;> rfl
theorem kBad_lst (its : List J) (i : Nat) : kBad (.mk 4 0 [] [] its) i = false := rfl
theorem areK_iff (ks : List (List UInt8)) : areK ks = true ↔ ∀ i, i < ks.length → keyG ks i = true := by
 rw [areK_allN, allN_iff]
 exact ⟨fun h i hi => h i (by omega) (by omega), fun h i _ hi => h i (by omega)⟩
theorem pfo_right : ∀ (d : Nat) (j : J), RD j (12 - (d : Nat)) → jn j ≤ 400 → pfo d j = (((jn j : Nat) : Int), true)
 | 0, j, h, hn => by have := h.part.2; omega
 | d + 1, j, h, hn => by
  obtain ⟨hp, hd⟩ := h.part
  have hit : ∀ x ∈ j.items, pfo d x = (((jn x : Nat) : Int), true) := fun x hx => by
   have := h.item x hx
   rw [show (12 : Int) - ((d + 1 : Nat) : Int) + 1 = 12 - (d : Nat) by omega] at this
   exact pfo_right d x this (by have := jns_mem x hx; rw [jn_eq] at hn; omega)
  obtain ⟨hz, hh⟩ := part_head hp
  cases hh with
  | null => rcases hz with hz | hz
            ·rw [hz]; rfl
            ·exact absurd rfl hz
  | ff => rfl
  | tt => rfl
  | @num n hb =>
   show ((1 : Int), inB n (-1000000000) 1000000000) = _
   rw [inB_iff.2 hb]; rfl
  | @txt t ht =>
   show ((1 : Int), plainT t) = _
   rw [ht]; rfl
  | @lst its =>
   have ep : pfo (d + 1) (.mk 4 0 [] [] its) = match sokI (pfo d) (.mk 4 0 [] [] its) its.length 1 0 with | some v => (v, true) | none => (0, false) := rfl
   have hj : jn (.mk 4 0 [] [] its) = 1 + jns its := jn_eq _
   have := sok_all (pfo d) (.mk 4 0 [] [] its) (fun i _ => kBad_lst its i) hit its.length 1 0 (by simp [J.items]) (by rw [List.drop_zero]; show 1 + jns its ≤ 400; omega)
   rw [ep, show (1 : Int) = ((1 : Nat) : Int) from rfl, this, hj, List.drop_zero]; rfl
  | @obj ks its hl hk =>
   have ep : pfo (d + 1) (.mk 5 0 [] ks its) = match sokI (pfo d) (.mk 5 0 [] ks its) its.length 1 0 with | some v => (v, true) | none => (0, false) := rfl
   have hj : jn (.mk 5 0 [] ks its) = 1 + jns its := jn_eq _
   have := sok_all (pfo d) (.mk 5 0 [] ks its) (fun i hi => by rw [kBad_key, (areK_iff ks).1 hk i (by rw [hl]; exact hi)]; rfl) hit its.length 1 0 (by simp [J.items]) (by rw [List.drop_zero]; show 1 + jns its ≤ 400; omega)
   rw [ep, show (1 : Int) = ((1 : Nat) : Int) from rfl, this, hj, List.drop_zero]; rfl
theorem getD_of_mem {L : List J} {x : J} (h : x ∈ L) : ∃ i, i < L.length ∧ L.getD i J.zero = x := by
 obtain ⟨i, hi, e⟩ := List.getElem_of_mem h
 exact ⟨i, hi, by rw [List.getD_eq_getElem?_getD, List.getElem?_eq_getElem hi]; exact e⟩
theorem pfo_rj : ∀ (d : Nat) (j : J), PF j → (pfo d j).2 = true → RJ j
 | 0, j, hp, h => by simp [pfo] at h
 | d + 1, j, hp, h => by
  have leaf : ∀ (k n : Int) (t : List UInt8), partJ (.mk k n t [] []) = true → RJ (.mk k n t [] []) := fun k n t h => .mk h (fun x hx => by cases hx)
  cases hp with
  | null => exact leaf _ _ _ (by decide)
  | @bool n hn => rcases hn with rfl | rfl <;> exact leaf _ _ _ (by decide)
  | @num n =>
   have h : inB n (-1000000000) 1000000000 = true := h
   have := inB_iff.1 h
   exact leaf _ _ _ (by simp [partJ]; omega)
  | @txt t hl =>
   have h : plainT t = true := h
   exact leaf _ _ _ (by simp [partJ, h])
  | @lst its hi hl =>
   have ep : pfo (d + 1) (.mk 4 0 [] [] its) = match sokI (pfo d) (.mk 4 0 [] [] its) its.length 1 0 with | some v => (v, true) | none => (0, false) := rfl
   cases hs : sokI (pfo d) (.mk 4 0 [] [] its) its.length 1 0 with
   | none => rw [ep, hs] at h; cases h
   | some v =>
    have hv := sok_inv (pfo d) (.mk 4 0 [] [] its) its.length 1 0 v (by simp [J.items]) hs
    refine .mk (by simp [partJ]) fun x hx => ?_
    obtain ⟨i, hi', e⟩ := getD_of_mem hx
    have h2 := (hv i (by omega) hi').2
    rw [e] at h2
    exact pfo_rj d x (hi x hx) h2
  | @obj ks its hi hl hk hks =>
   have ep : pfo (d + 1) (.mk 5 0 [] ks its) = match sokI (pfo d) (.mk 5 0 [] ks its) its.length 1 0 with | some v => (v, true) | none => (0, false) := rfl
   cases hs : sokI (pfo d) (.mk 5 0 [] ks its) its.length 1 0 with
   | none => rw [ep, hs] at h; cases h
   | some v =>
    have hv := sok_inv (pfo d) (.mk 5 0 [] ks its) its.length 1 0 v (by simp [J.items]) hs
    have ha : areK ks = true := (areK_iff ks).2 fun i hi' => by
     have := (hv i (by omega) (by rw [hk] at hi'; exact hi')).1
     rw [kBad_key] at this
     simpa using this
    refine .mk (by simp [partJ, hk, ha]) fun x hx => ?_
    obtain ⟨i, hi', e⟩ := getD_of_mem hx
    have h2 := (hv i (by omega) hi').2
    rw [e] at h2
    exact pfo_rj d x (hi x hx) h2
theorem stxR_len : ∀ (n : Nat) (s W : List UInt8), s.length ≤ n → (stxR s W).1.length ≤ 200
 | n, [], W, h => by simp [stxR]
 | 0, c :: s, W, h => by simp at h
 | n + 1, c :: s, W, h => by
  simp only [List.length_cons, Nat.add_le_add_iff_right] at h
  by_cases hw : 200 < W.length
  ·rw [stxR_long c s hw]; simp
  by_cases h1 : c = 34
  ·subst h1; rw [stxR_q s hw]; show W.length ≤ 200; omega
  by_cases h2 : c = 92
  ·subst h2
   cases s with
   | nil => rw [stxR_e1 hw]; simp
   | cons a r =>
    rw [stxR_e2 a r hw]
    simp only [List.length_cons] at h
    split
    ·exact stxR_len n r _ (by omega)
    ·simp
  ·rw [stxR_o s hw h1 h2]
   exact stxR_len n s _ h
theorem stxE_len (ok : Bool) (s : List UInt8) : (stxE ok s).1.length ≤ 200 := by
 unfold stxE
 cases ok with
 | false => simp
 | true => exact stxR_len _ s [] (Nat.le_refl _)
def PFv (f : SS → J × SS) : Prop := ∀ x, x.s.length ≤ 1000000 → PF (f x).1 ∧ (f x).2.s.length ≤ x.s.length
theorem sLst_pf {f : SS → J × SS} (hf : PFv f) : ∀ (n : Nat) (x : SS) (L : List J), x.s.length ≤ 1000000 → (∀ y ∈ L, PF y) → (∀ y ∈ (sLst f n x L).2, PF y) ∧ (sLst f n x L).2.length ≤ L.length + n ∧ (sLst f n x L).1.s.length ≤ x.s.length
 | 0, x, L, hx, hL => ⟨hL, Nat.le_refl _, Nat.le_refl _⟩
 | n + 1, x, L, hx, hL => by
  cases ho : x.ok with
  | false => rw [sLst_off _ _ _ _ ho]; exact ⟨hL, by show L.length ≤ _; omega, Nat.le_refl _⟩
  | true =>
   rw [sLst, ho]
   simp only [cond_true]
   have l1 := (stk_suf 93 x).length_le
   cases (x.tk 93).1 with
   | true => exact ⟨hL, by simp only [cond_true]; omega, l1⟩
   | false =>
    simp only [cond_false]
    have l2 : (bif L.isEmpty then (x.tk 93).2 else (x.tk 93).2.nd 44).s.length ≤ x.s.length := by
     have := (snd_suf 44 (x.tk 93).2).length_le
     cases L.isEmpty
     ·simp only [cond_false]; omega
     ·exact l1
    generalize (bif L.isEmpty then (x.tk 93).2 else (x.tk 93).2.nd 44) = x2 at *
    obtain ⟨p1, p2⟩ := hf x2 (by omega)
    obtain ⟨q1, q2, q3⟩ := sLst_pf hf n (f x2).2 (L ++ [(f x2).1]) (by omega) (fun y hy => by
     rcases List.mem_append.1 hy with hy | hy
     ·exact hL y hy
     ·rw [List.mem_singleton] at hy; rw [hy]; exact p1)
    simp only [List.length_append, List.length_singleton] at q2
    exact ⟨q1, by omega, by omega⟩
theorem sObj_pf {f : SS → J × SS} (hf : PFv f) : ∀ (n : Nat) (x : SS) (a : KL), x.s.length ≤ 1000000 → (∀ y ∈ a.its, PF y) → (∀ y ∈ a.ks, y.length ≤ 4294967296) → a.ks.length = a.its.length →
  (∀ y ∈ (sObj f n x a).2.its, PF y) ∧ (∀ y ∈ (sObj f n x a).2.ks, y.length ≤ 4294967296) ∧ (sObj f n x a).2.its.length ≤ a.its.length + n ∧ (sObj f n x a).1.s.length ≤ x.s.length
 | 0, x, a, hx, hL, hK, hkl => ⟨hL, hK, Nat.le_refl _, Nat.le_refl _⟩
 | n + 1, x, a, hx, hL, hK, hkl => by
  cases ho : x.ok with
  | false => rw [sObj_off _ _ _ _ ho]; exact ⟨hL, hK, by show a.its.length ≤ _; omega, Nat.le_refl _⟩
  | true =>
   rw [sObj_on _ _ _ _ ho]
   have l1 := (stk_suf 125 x).length_le
   cases (x.tk 125).1 with
   | true => exact ⟨hL, hK, by simp only [cond_true]; omega, l1⟩
   | false =>
    simp only [cond_false]
    have l2 : (bif a.its.isEmpty then (x.tk 125).2 else (x.tk 125).2.nd 44).s.length ≤ x.s.length := by
     have := (snd_suf 44 (x.tk 125).2).length_le
     cases a.its.isEmpty
     ·simp only [cond_false]; omega
     ·exact l1
    generalize (bif a.its.isEmpty then (x.tk 125).2 else (x.tk 125).2.nd 44) = x2 at *
    have l3 := (snd_suf 34 x2).length_le
    have l4 := (stxE_suf (x2.nd 34).ok (x2.nd 34).s).length_le
    have l5 := stxE_len (x2.nd 34).ok (x2.nd 34).s
    have e : sField f x2 a = (⟨(f ((SS.mk (stxE (x2.nd 34).ok (x2.nd 34).s).2.2 (x2.nd 34).n (stxE (x2.nd 34).ok (x2.nd 34).s).2.1).nd 58)).2.s, (f ((SS.mk (stxE (x2.nd 34).ok (x2.nd 34).s).2.2 (x2.nd 34).n (stxE (x2.nd 34).ok (x2.nd 34).s).2.1).nd 58)).2.n, (f ((SS.mk (stxE (x2.nd 34).ok (x2.nd 34).s).2.2 (x2.nd 34).n (stxE (x2.nd 34).ok (x2.nd 34).s).2.1).nd 58)).2.ok && !kDup (stxE (x2.nd 34).ok (x2.nd 34).s).1 a.ks⟩, kIns (stxE (x2.nd 34).ok (x2.nd 34).s).1 (f ((SS.mk (stxE (x2.nd 34).ok (x2.nd 34).s).2.2 (x2.nd 34).n (stxE (x2.nd 34).ok (x2.nd 34).s).2.1).nd 58)).1 a) := rfl
    have l6 := (snd_suf 58 (SS.mk (stxE (x2.nd 34).ok (x2.nd 34).s).2.2 (x2.nd 34).n (stxE (x2.nd 34).ok (x2.nd 34).s).2.1)).length_le
    simp only at l6
    generalize (SS.mk (stxE (x2.nd 34).ok (x2.nd 34).s).2.2 (x2.nd 34).n (stxE (x2.nd 34).ok (x2.nd 34).s).2.1).nd 58 = x3 at *
    generalize (stxE (x2.nd 34).ok (x2.nd 34).s).1 = key at *
    obtain ⟨p1, p2⟩ := hf x3 (by omega)
    rw [e]
    dsimp only
    have hi := kIns_len key (f x3).1 a hkl
    obtain ⟨q1, q2, q3, q4⟩ := sObj_pf hf n ⟨(f x3).2.s, (f x3).2.n, (f x3).2.ok && !kDup key a.ks⟩ (kIns key (f x3).1 a) (by show (f x3).2.s.length ≤ _; omega) (fun y hy => by
     unfold kIns at hy
     simp only [List.mem_append, List.mem_cons] at hy
     rcases hy with hy | rfl | hy
     ·exact hL y (List.mem_of_mem_take hy)
     ·exact p1
     ·exact hL y (List.mem_of_mem_drop hy)) (fun y hy => by
     unfold kIns at hy
     simp only [List.mem_append, List.mem_cons] at hy
     rcases hy with hy | rfl | hy
     ·exact hK y (List.mem_of_mem_take hy)
     ·omega
     ·exact hK y (List.mem_of_mem_drop hy)) (by omega)
    refine ⟨q1, q2, by omega, ?_⟩
    simp only at q4
    omega
theorem skp_len (s : List UInt8) : (skp s).length ≤ s.length := (List.dropWhile_suffix _).length_le
theorem sVal_pf : ∀ k, PFv (sVal k)
 | 0 => fun x hx => ⟨.null, skp_len _⟩
 | k + 1 => fun x hx => by
  have l0 := skp_len x.s
  by_cases hbad : x.ok = false ∨ 400 < x.n + 1 ∨ (skp x.s).isEmpty = true
  ·rw [sVal_bad _ _ (.inr hbad)]; exact ⟨.null, l0⟩
  simp only [not_or, Bool.not_eq_false, Bool.not_eq_true] at hbad
  rw [sVal_go k x hbad.1 hbad.2.1 hbad.2.2]
  unfold sValB
  have ld : ∀ n, ((skp x.s).drop n).length ≤ (skp x.s).length := fun n => by rw [List.length_drop]; omega
  cases pfx wNull (skp x.s)
  ·cases pfx wTrue (skp x.s)
   ·cases pfx wFalse (skp x.s)
    ·cases hdB 34 (skp x.s)
     ·cases hdB 91 (skp x.s)
      ·cases hdB 123 (skp x.s)
       ·exact ⟨.num, Nat.le_trans (snR_suf _).length_le l0⟩
       ·have q := sObj_pf (sVal_pf k) ((skp x.s).length + 2) ⟨(skp x.s).drop 1, x.n + 1, true⟩ ⟨[], []⟩ (by have := ld 1; show ((skp x.s).drop 1).length ≤ _; omega) (fun y hy => by cases hy) (fun y hy => by cases hy) rfl
        have hk := sObj_kl (sVal k) ((skp x.s).length + 2) ⟨(skp x.s).drop 1, x.n + 1, true⟩ ⟨[], []⟩ rfl
        simp only [List.length_nil] at q
        have l1 := ld 1
        exact ⟨.obj q.1 (by omega) hk q.2.1, by have := q.2.2.2; simp only [cond_false, cond_true] at this ⊢; omega⟩
      ·have q := sLst_pf (sVal_pf k) ((skp x.s).length + 2) ⟨(skp x.s).drop 1, x.n + 1, true⟩ [] (by have := ld 1; show ((skp x.s).drop 1).length ≤ _; omega) (fun y hy => by cases hy)
       simp only [List.length_nil] at q
       have l1 := ld 1
       exact ⟨.lst q.1 (by omega), by have := q.2.2; simp only [cond_false, cond_true] at this ⊢; omega⟩
     ·have l1 := ld 1
      have l2 := (stxE_suf true ((skp x.s).drop 1)).length_le
      have l3 := stxE_len true ((skp x.s).drop 1)
      exact ⟨.txt (by omega), by simp only [cond_false, cond_true]; omega⟩
    ·exact ⟨.bool (.inl rfl), by have := ld 5; simp only [cond_false, cond_true]; omega⟩
   ·exact ⟨.bool (.inr rfl), by have := ld 4; simp only [cond_false, cond_true]; omega⟩
  ·exact ⟨.null, by have := ld 4; simp only [cond_true]; omega⟩
end Go.Proofs.YtfncaghjfgnnhaaGreatDoor

namespace Go.Proofs.YtfncaghjfgnnhaaGreatDoor
open Go.RowKit
set_option maxRecDepth 100000
theorem hdB_pfx (b : UInt8) (s : List UInt8) : hdB b s = pfx [b] (skp s) := by
 unfold hdB pfx
 cases skp s with
 | nil => rfl
 | cons c r => simp
theorem rtk (b : UInt8) (s : List UInt8) (m : Int) : (RS.mk s false m).tk [b] = (hdB b s, ⟨hdS b s, false, m⟩) := by
 unfold RS.tk tkS tkB hdS
 rw [hdB_pfx]
 cases pfx [b] (skp s) <;> rfl
theorem rwant (b : UInt8) (s : List UInt8) (m : Int) : (RS.mk s false m).want [b] = ⟨hdS b s, !hdB b s, m⟩ := by
 have := rtk b s m
 unfold RS.tk at this
 simp only [Prod.mk.injEq, RS.mk.injEq, and_true] at this
 unfold RS.want
 simp only [this.1, this.2]
theorem hdS_no {b : UInt8} {s : List UInt8} (h : hdB b s = false) : hdS b s = skp s := by unfold hdS; rw [h]; rfl
theorem hdS_le (b : UInt8) (s : List UInt8) : (hdS b s).length ≤ s.length := (hdS_suf b (List.suffix_refl s)).length_le
theorem hdS_lt {b : UInt8} {s : List UInt8} (h : hdB b s = true) : (hdS b s).length + 1 ≤ s.length := by
 unfold hdS
 rw [h]
 have l := skp_len s
 have : 1 ≤ (skp s).length := by
  unfold hdB at h
  cases hs : skp s with
  | nil => rw [hs] at h; cases h
  | cons c r => simp
 simp only [cond_true, List.length_drop]; omega
theorem hdB_skp (b : UInt8) (s : List UInt8) : hdB b (skp s) = hdB b s := by unfold hdB; rw [skp_skp]
theorem noNm_hd {b : UInt8} {s : List UInt8} (h : hdB b s = true) (hb : nmC b = false) : NoNm s := by
 intro c t e
 cases hc : nmC c with
 | false => rfl
 | true =>
  exfalso
  have := skp_nb t (nmC_blk hc)
  rw [e] at h
  unfold hdB at h
  rw [this] at h
  simp only [beq_iff_eq] at h
  rw [h, hb] at hc; cases hc
structure Fw (k : Nat) (s : List UInt8) (m : Int) (j : J) (s' : List UInt8) (m' : Int) : Prop where
 sv : sVal k ⟨s, 400 - m, true⟩ = (j, ⟨s', 400 - m', true⟩)
 rd : RD j (12 - (k : Nat))
 nd : m' + jn j = m
 lo : 0 ≤ m'
 len : (pj j).length + s'.length ≤ s.length
def FWD (k : Nat) : Prop := ∀ s m j s' m', iVal k ⟨s, false, m⟩ = (j, ⟨s', false, m'⟩) → Fw k s m j s' m'
def BWD (k : Nat) : Prop := ∀ s m j s' n', sVal k ⟨s, 400 - m, true⟩ = (j, ⟨s', n', true⟩) → RJ j → NoNm s' → (iVal k ⟨s, false, m⟩).2.bad = false
theorem partsL_off {α : Type} {e : List UInt8} {f : RS → α → RS × α} {n : Nat} {r : RS} {a a' : α} {s' : List UInt8} {m' : Int} (h : partsL e f n r a = (⟨s', false, m'⟩, a')) : r.bad = false := by
 obtain ⟨s, b, m⟩ := r
 cases b with
 | false => rfl
 | true => rw [partsL_bad] at h; simp at h
theorem sLst_step (k n : Nat) (s1 : List UInt8) (n1 : Int) (acc : List J) (x : J) : sLst (sVal k) (n + 1) ⟨s1, n1, true⟩ (acc ++ [x]) = bif hdB 93 s1 then (⟨hdS 93 s1, n1, true⟩, acc ++ [x]) else sLst (sVal k) n (sVal k ⟨hdS 44 (hdS 93 s1), n1, hdB 44 (hdS 93 s1) && true⟩).2 (acc ++ [x] ++ [(sVal k ⟨hdS 44 (hdS 93 s1), n1, hdB 44 (hdS 93 s1) && true⟩).1]) := by
 have hne : (acc ++ [x]).isEmpty = false := by cases acc <;> rfl
 rw [sLst, hne]; rfl
theorem lst_fwd {k : Nat} (IH : FWD k) : ∀ (N : Nat) (s : List UInt8) (m : Int) (acc : List J) (s' : List UInt8) (m' : Int) (out : List J), s.length + 1 ≤ N → partsL [93] (listStep (iVal k)) N ⟨s, false, m⟩ acc = (⟨s', false, m'⟩, out) → ∀ n, s.length + 1 ≤ n →
  ∃ its, its ≠ [] ∧ out = acc ++ its ∧ (∀ x ∈ its, RD x (12 - (k : Nat))) ∧ m' + jns its = m ∧ 0 ≤ m' ∧ (pjs false true [] its).length + 1 + s'.length ≤ s.length ∧ sLst (sVal k) n (sVal k ⟨s, 400 - m, true⟩).2 (acc ++ [(sVal k ⟨s, 400 - m, true⟩).1]) = (⟨s', 400 - m', true⟩, out)
 | 0, s, m, acc, s', m', out, hN, h, n, hn => by omega
 | N + 1, s, m, acc, s', m', out, hN, h, n, hn => by
  rw [partsL_on _ _ _ _ rfl] at h
  have el : listStep (iVal k) ⟨s, false, m⟩ acc = ((iVal k ⟨s, false, m⟩).2, acc ++ [(iVal k ⟨s, false, m⟩).1]) := rfl
  rw [el] at h
  have fw := IH s m
  generalize iVal k ⟨s, false, m⟩ = y at *
  obtain ⟨x, ⟨s1, b, m1⟩⟩ := y
  cases b with
  | true =>
   exfalso
   simp only [tk_bad, cond_false] at h
   have h1 := partsL_off h
   rw [want_bad _ _ rfl] at h1; cases h1
  | false =>
   obtain ⟨sv, rd, hj, h0, hl⟩ := fw x s1 m1 rfl
   rw [sv]
   obtain ⟨n, rfl⟩ : ∃ q, n = q + 1 := ⟨n - 1, by omega⟩
   simp only [rtk] at h
   rw [sLst_step]
   cases h93 : hdB 93 s1 with
   | true =>
    rw [h93] at h
    simp only [cond_true, Prod.mk.injEq, RS.mk.injEq, true_and] at h
    obtain ⟨⟨rfl, rfl⟩, rfl⟩ := h
    have := hdS_lt h93
    refine ⟨[x], by simp, rfl, by simpa using rd, by simp only [jns]; omega, h0, ?_, rfl⟩
    rw [pjs_fst, prt_f, pjs, List.append_nil]; omega
   | false =>
    rw [h93] at h
    simp only [cond_false, rwant] at h
    cases h44 : hdB 44 (hdS 93 s1) with
    | false =>
     have h1 := partsL_off h
     rw [h44] at h1; cases h1
    | true =>
     rw [h44] at h
     simp only [Bool.not_true] at h
     have a1 := hdS_lt h44
     have a2 := hdS_le 93 s1
     obtain ⟨its, i1, i2, i3, i4, i5, i6, i7⟩ := lst_fwd IH N _ m1 (acc ++ [x]) s' m' out (by omega) h n (by omega)
     refine ⟨x :: its, by simp, by rw [i2]; simp, ?_, by rw [jns]; omega, i5, ?_, i7⟩
     ·intro z hz
      rcases List.mem_cons.1 hz with rfl | hz
      ·exact rd
      ·exact i3 z hz
     ·cases its with
      | nil => exact absurd rfl i1
      | cons y ys =>
       rw [pjs_fst, prt_f] at i6
       rw [pjs_fst, prt_f, List.tail_nil, pjs_one, prt_f]
       simp only [List.length_append, List.length_cons, List.tail_nil] at i6 ⊢
       omega
theorem sLst_sub (f : SS → J × SS) : ∀ (n : Nat) (x : SS) (L : List J), ∀ y ∈ L, y ∈ (sLst f n x L).2
 | 0, x, L, y, hy => hy
 | n + 1, x, L, y, hy => by
  rw [sLst]
  cases x.ok with
  | false => exact hy
  | true =>
   simp only [cond_true]
   cases (x.tk 93).1 with
   | true => exact hy
   | false => exact sLst_sub f n _ _ y (by simp [hy])
theorem both {k : Nat} (FW : FWD k) (BW : BWD k) {s : List UInt8} {m : Int} {x : J} {s1 : List UInt8} {n1 : Int} (hy : sVal k ⟨s, 400 - m, true⟩ = (x, ⟨s1, n1, true⟩)) (hr : RJ x) (hn : NoNm s1) : iVal k ⟨s, false, m⟩ = (x, ⟨s1, false, 400 - n1⟩) := by
 have hb := BW s m x s1 n1 hy hr hn
 have fw := FW s m
 generalize iVal k ⟨s, false, m⟩ = y at *
 obtain ⟨j, ⟨a, b, c⟩⟩ := y
 simp only at hb
 subst hb
 have := (fw j a c rfl).sv
 rw [hy] at this
 simp only [Prod.mk.injEq, SS.mk.injEq, and_true] at this
 obtain ⟨rfl, rfl, e⟩ := this
 rw [e, show (400 : Int) - (400 - c) = c by omega]
theorem lst_bwd {k : Nat} (FW : FWD k) (BW : BWD k) : ∀ (n : Nat) (s : List UInt8) (m : Int) (acc : List J) (s' : List UInt8) (n' : Int) (out : List J), s.length + 1 ≤ n → sLst (sVal k) n (sVal k ⟨s, 400 - m, true⟩).2 (acc ++ [(sVal k ⟨s, 400 - m, true⟩).1]) = (⟨s', n', true⟩, out) → (∀ x ∈ out, RJ x) → ∀ N, s.length + 1 ≤ N →
  (partsL [93] (listStep (iVal k)) N ⟨s, false, m⟩ acc).1.bad = false
 | 0, s, m, acc, s', n', out, hn, h, hr, N, hN => by omega
 | n + 1, s, m, acc, s', n', out, hn, h, hr, N, hN => by
  obtain ⟨N, rfl⟩ : ∃ q, N = q + 1 := ⟨N - 1, by omega⟩
  have bo : ∀ {x : J} {s1 : List UInt8} {n1 : Int}, sVal k ⟨s, 400 - m, true⟩ = (x, ⟨s1, n1, true⟩) → RJ x → NoNm s1 → iVal k ⟨s, false, m⟩ = (x, ⟨s1, false, 400 - n1⟩) := fun a b c => both FW BW a b c
  have fw := FW s m
  rw [partsL_on _ _ _ _ rfl]
  have el : listStep (iVal k) ⟨s, false, m⟩ acc = ((iVal k ⟨s, false, m⟩).2, acc ++ [(iVal k ⟨s, false, m⟩).1]) := rfl
  rw [el]
  generalize sVal k ⟨s, 400 - m, true⟩ = y at *
  obtain ⟨x, ⟨s1, n1, ok⟩⟩ := y
  cases ok with
  | false => rw [sLst_off _ _ _ _ rfl] at h; simp at h
  | true =>
   simp only at h
   rw [sLst_step] at h
   cases h93 : hdB 93 s1 with
   | true =>
    rw [h93] at h
    simp only [cond_true, Prod.mk.injEq] at h
    have hx : RJ x := hr x (by rw [← h.2]; simp)
    rw [bo rfl hx (noNm_hd h93 (by decide))]
    simp only [rtk, h93]; rfl
   | false =>
    rw [h93] at h
    simp only [cond_false] at h
    cases h44 : hdB 44 (hdS 93 s1) with
    | false =>
     rw [h44, sVal_bad _ _ (.inr (.inl rfl)), sLst_off _ _ _ _ rfl] at h
     simp at h
    | true =>
     rw [h44] at h
     have hx : RJ x := hr x (by have := congrArg Prod.snd h; simp only at this; rw [← this]; exact sLst_sub _ _ _ _ _ (by simp))
     have h44' : hdB 44 s1 = true := by rw [hdS_no h93, hdB_skp] at h44; exact h44
     have hb := bo rfl hx (noNm_hd h44' (by decide))
     have hl := (fw _ _ _ hb).len
     rw [hb]
     simp only [rtk, h93, cond_false, rwant, h44, Bool.not_true]
     have a1 := hdS_lt h44
     have a2 := hdS_le 93 s1
     refine lst_bwd FW BW n (hdS 44 (hdS 93 s1)) (400 - n1) (acc ++ [x]) s' n' out (by omega) ?_ hr N (by omega)
     rw [show (400 : Int) - (400 - n1) = n1 by omega]
     exact h
theorem kPos_take (key : List UInt8) : ∀ ks : List (List UInt8), ∀ x ∈ ks.take (kPos key ks), x < key
 | [], x, hx => by simp at hx
 | k :: ks, x, hx => by
  rw [kPos] at hx
  cases hl : Op.bytesLess k key with
  | false => rw [hl] at hx; simp at hx
  | true =>
   rw [hl] at hx
   simp only [cond_true, List.take_succ_cons, List.mem_cons] at hx
   rcases hx with rfl | hx
   ·rw [bytesLess_eq, decide_eq_true_eq] at hl; exact hl
   ·exact kPos_take key ks x hx
theorem kPos_drop (key : List UInt8) : ∀ ks : List (List UInt8), ks.Pairwise (· < ·) → ∀ x ∈ ks.drop (kPos key ks), ¬ x < key
 | [], _, x, hx => by simp at hx
 | k :: ks, hp, x, hx => by
  rw [kPos] at hx
  have hp' := List.pairwise_cons.1 hp
  cases hl : Op.bytesLess k key with
  | false =>
   rw [hl] at hx
   rw [bytesLess_eq, decide_eq_false_iff_not] at hl
   simp only [cond_false, List.drop_zero, List.mem_cons] at hx
   rcases hx with rfl | hx
   ·exact hl
   ·exact fun h => hl (List.lt_trans (hp'.1 x hx) h)
  | true =>
   rw [hl] at hx
   simp only [cond_true, List.drop_succ_cons] at hx
   exact kPos_drop key ks hp'.2 x hx
theorem dup_mem {key : List UInt8} {ks : List (List UInt8)} (h : kDup key ks = true) : key ∈ ks := by
 unfold kDup at h
 rw [Bool.and_eq_true, decide_eq_true_eq, beq_iff_eq] at h
 rw [← h.2]; exact k_mem h.1
theorem mem_dup {key : List UInt8} {ks : List (List UInt8)} (hp : ks.Pairwise (· < ·)) (h : key ∈ ks) : kDup key ks = true := by
 have hd := kPos_drop key ks hp
 have ht := kPos_take key ks
 have hpd : (ks.drop (kPos key ks)).Pairwise (· < ·) := hp.sublist (List.drop_sublist _ _)
 rw [← List.take_append_drop (kPos key ks) ks, List.mem_append] at h
 unfold kDup
 rcases h with h | h
 ·exact absurd (ht key h) (List.lt_irrefl key)
 ·have hl : kPos key ks < ks.length := by
   have := List.length_pos_of_mem h
   rw [List.length_drop] at this; omega
  have hg : ks.drop (kPos key ks) = ks.getD (kPos key ks) [] :: ks.drop (kPos key ks + 1) := by
   rw [List.drop_eq_getElem_cons hl, List.getD_eq_getElem?_getD, List.getElem?_eq_getElem hl]; rfl
  rw [decide_eq_true hl, Bool.true_and, beq_iff_eq]
  rw [hg] at h hd hpd
  rcases List.mem_cons.1 h with h | h
  ·exact h.symm
  ·exact absurd ((List.pairwise_cons.1 hpd).1 key h) (hd _ (by simp))
theorem kvGet_put (k key : List UInt8) (v : J) : ∀ m : List (List UInt8 × J), kvGet k (kvPut key v m) = if k = key then some v else kvGet k m
 | [] => by
  by_cases h : k = key
  ·subst h; simp [kvPut, kvGet]
  ·simp [kvPut, kvGet, h]
 | (k', j') :: m => by
  have ih := kvGet_put k key v m
  by_cases h : key = k'
  ·subst h
   by_cases h2 : k = key
   ·subst h2; simp [kvPut, kvGet]
   ·simp [kvPut, kvGet, h2]
  ·by_cases h2 : k = k'
   ·subst h2
    have : ¬ k = key := fun e => h e.symm
    simp [kvPut, kvGet, h, this]
   ·simp [kvPut, kvGet, h, h2, ih]
structure Inv (d : Int) (A : KM) (B : KL) : Prop where
 pw : B.ks.Pairwise (· < ·)
 perm : B.ks.Perm A.ks
 its : B.its = B.ks.map fun k => (kvGet k A.m).getD J.zero
 mem : ∀ k, (kvGet k A.m).isSome = true ↔ k ∈ A.ks
 rd : ∀ x ∈ B.its, RD x d
 pl : ∀ k ∈ B.ks, plainT k = true
theorem Inv.nil (d : Int) : Inv d ⟨[], []⟩ ⟨[], []⟩ := ⟨.nil, .refl _, rfl, fun k => by simp [kvGet], (fun x hx => by cases hx), (fun x hx => by cases hx)⟩
theorem Inv.len {d : Int} {A : KM} {B : KL} (h : Inv d A B) : B.ks.length = B.its.length := by rw [h.its, List.length_map]
theorem not_lt_ne {a b : List UInt8} (h : ¬ a < b) (hn : a ≠ b) : b < a := by
 have h1 : b ≤ a := List.not_lt.1 h
 by_cases h2 : b < a
 ·exact h2
 ·exact absurd (List.le_antisymm (List.not_lt.1 h2) h1) hn
theorem Inv.ins {d : Int} {A : KM} {B : KL} (h : Inv d A B) {key : List UInt8} {v : J} (hk : key ∉ B.ks) (hp : plainT key = true) (hv : RD v d) : Inv d ⟨A.ks ++ [key], kvPut key v A.m⟩ (kIns key v B) := by
 have hd := kPos_drop key B.ks h.pw
 have ht := kPos_take key B.ks
 have hsp := List.take_append_drop (kPos key B.ks) B.ks
 have hpw := h.pw
 rw [← hsp] at hpw
 obtain ⟨p1, p2, p3⟩ := List.pairwise_append.1 hpw
 have hkt : key ∉ B.ks.take (kPos key B.ks) := fun hm => hk (List.mem_of_mem_take hm)
 have hkd : key ∉ B.ks.drop (kPos key B.ks) := fun hm => hk (List.mem_of_mem_drop hm)
 have hgt : ∀ x ∈ B.ks.drop (kPos key B.ks), key < x := fun x hx => not_lt_ne (hd x hx) (fun e => hkd (e ▸ hx))
 refine ⟨?_, ?_, ?_, ?_, ?_, ?_⟩
 ·show (B.ks.take (kPos key B.ks) ++ key :: B.ks.drop (kPos key B.ks)).Pairwise (· < ·)
  refine List.pairwise_append.2 ⟨p1, List.pairwise_cons.2 ⟨hgt, p2⟩, fun a ha b hb => ?_⟩
  rcases List.mem_cons.1 hb with rfl | hb
  ·exact ht a ha
  ·exact p3 a ha b hb
 ·show (B.ks.take (kPos key B.ks) ++ key :: B.ks.drop (kPos key B.ks)).Perm (A.ks ++ [key])
  refine List.perm_middle.trans ?_
  rw [hsp]
  exact (List.Perm.cons key h.perm).trans (List.perm_append_singleton key A.ks).symm
 ·show B.its.take (kPos key B.ks) ++ v :: B.its.drop (kPos key B.ks) = _
  have hm : ∀ l : List (List UInt8), key ∉ l → (l.map fun k => (kvGet k (kvPut key v A.m)).getD J.zero) = l.map fun k => (kvGet k A.m).getD J.zero := fun l hl => by
   refine List.map_congr_left fun k hk' => ?_
   have hne : k ≠ key := fun e => hl (e ▸ hk')
   rw [kvGet_put, if_neg hne]
  show _ = (B.ks.take (kPos key B.ks) ++ key :: B.ks.drop (kPos key B.ks)).map _
  rw [List.map_append, List.map_cons, hm _ hkt, hm _ hkd, kvGet_put, if_pos rfl, List.map_take, List.map_drop, ← h.its]
  rfl
 ·intro k
  show (kvGet k (kvPut key v A.m)).isSome = true ↔ k ∈ A.ks ++ [key]
  rw [kvGet_put, List.mem_append, List.mem_singleton]
  by_cases e : k = key
  ·rw [if_pos e]; simp [e]
  ·rw [if_neg e, h.mem k]; simp [e]
 ·intro x hx
  have hx : x ∈ B.its.take (kPos key B.ks) ++ v :: B.its.drop (kPos key B.ks) := hx
  rcases List.mem_append.1 hx with hx | hx
  ·exact h.rd x (List.mem_of_mem_take hx)
  ·rcases List.mem_cons.1 hx with rfl | hx
   ·exact hv
   ·exact h.rd x (List.mem_of_mem_drop hx)
 ·intro x hx
  have hx : x ∈ B.ks.take (kPos key B.ks) ++ key :: B.ks.drop (kPos key B.ks) := hx
  rcases List.mem_append.1 hx with hx | hx
  ·exact h.pl x (List.mem_of_mem_take hx)
  ·rcases List.mem_cons.1 hx with rfl | hx
   ·exact hp
   ·exact h.pl x (List.mem_of_mem_drop hx)
theorem inv_srt {d : Int} {A : KM} {B : KL} (h : Inv d A B) : srt A.ks = B.ks := by
 have hp : (srt A.ks).Perm B.ks := (List.mergeSort_perm _ _).trans h.perm.symm
 have h1 : (srt A.ks).Pairwise (fun a b => decide (a ≤ b) = true) := List.pairwise_mergeSort (fun a b c hab hbc => by
  simp only [decide_eq_true_eq] at *; exact List.le_trans hab hbc) (fun a b => by
  simp only [Bool.or_eq_true, decide_eq_true_eq]; exact List.le_total a b) _
 refine hp.eq_of_pairwise (le := fun a b : List UInt8 => a ≤ b) (fun a b _ _ hab hba => List.le_antisymm hab hba) (h1.imp fun h => by simpa using h) (h.pw.imp fun h => List.le_of_lt h)
theorem inv_objJ {d : Int} {A : KM} {B : KL} (h : Inv d A B) : objJ A = .mk 5 0 [] B.ks B.its := by
 unfold objJ
 rw [inv_srt h, h.its]
theorem areK_of : ∀ {ks : List (List UInt8)}, ks.Pairwise (· < ·) → (∀ k ∈ ks, plainT k = true) → areK ks = true
 | [], _, _ => rfl
 | [k], _, hp => hp k (by simp)
 | k :: k' :: t, hs, hp => by
  have h2 := List.pairwise_cons.1 hs
  rw [areK, hp k (by simp), bytesLess_eq, decide_eq_true (h2.1 k' (by simp)), areK_of h2.2 (fun x hx => hp x (by simp [hx]))]; rfl
theorem Inv.part {d : Int} {A : KM} {B : KL} (h : Inv d A B) : partJ (.mk 5 0 [] B.ks B.its) = true := by
 have := areK_of h.pw h.pl
 have hl := h.len
 simp [partJ, this, hl]
end Go.Proofs.YtfncaghjfgnnhaaGreatDoor

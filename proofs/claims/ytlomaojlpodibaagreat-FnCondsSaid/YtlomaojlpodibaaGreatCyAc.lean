/-
  Atoms: how they stand; sets of them, as the reference makes them; atoms and sets that are drawn.
  Transactions of the reference, as functions.
  Rows in order: put, dropped, found (plain laws).
  The order of atoms; sets of them stay in order.
  The plain schema; conditions, mutations, sets of rows that are drawn.
  Conditions that are drawn.
  What is drawn, as a function of the source; lists of conditions that are drawn.
  Mutations that are drawn.
  Names of columns that are drawn; mutations as a function of the source.
  Steps one behind the other; a contract's blocks, said in another way ahead of the call or behind it.
  Copies of rows and stores.
  Searches of the reference: a row's place, a column, a table; are two sets the same; does a set fit a column.
  Copies of stores, all one's own.
  What searches give, in one table; how many cells refer to a row strongly.
  What is referred to is there; what must be unique is.
  What must be unique is; the code of a commit.
  Sets joined, lessened; what a column has first; numbers reckoned; a row's cell by its name.
  Which rows do.
  Mutations.
  Copies of stores whose rows are only read; a new store.
  A row put into a store, a row dropped.
-/
import Derived.Test.YtlomaojlpodibaaGreatCyAb
import Derived.Sort.Walk0
namespace Go.Proofs.YtlomaojlpodibaaGreat
open Go.RowKit
set_option maxRecDepth 100000
abbrev nT : Nat := 143
abbrev yg : Nat := 209
abbrev yl : Nat := 239
abbrev nh : Nat := 210
abbrev qu : Nat := 186
abbrev ya : Nat := 106
abbrev sO : Nat := 107
noncomputable def rU : Vw := fun t cs i => bif Nat.beq t nT then some (ak ((ae ak cs).getD i At.zero)) else AB t cs i
theorem PN (b : Bool) : fnT E0 0 yg [.bool b] [] = (
 bif b then .done (aj.mk (aa 1) [] []) else .done (aj.mk (aa 0) [] []) : T _) := by kernel_rfl
theorem x5 (b : Bool) : ao Tryz.prog yg [.bool b] [] ⟨.int .i64 (b.toNat : Nat), [], []⟩ := by
 refine bh (E := E0) follows named (PN b) (by simp) ?_
 cases b <;> exact aQ
noncomputable def LV : cP := fun f vs hp => match vs, hp with
 | [.bool b], [] => bif Nat.beq f yg then some ⟨b, fun y => ⟨.int .i64 (y.toNat : Nat), [], []⟩⟩ else none
 | [.agg [.int _ k, .int _ n, .str t], .agg [.int _ k2, .int _ n2, .str t2]], [] => bif Nat.beq f yl then some ⟨jI ⟨k, n, t⟩ ⟨k2, n2, t2⟩, fun y => ⟨.int .i64 y, [], []⟩⟩ else none
 | _, _ => none
noncomputable def lh : Env := { P := Tryz.prog, vw := rU, res := LV }
theorem X9 (a b : At) : fnT lh 0 yl [.agg (ak a), .agg (ak b)] [] = (
 let q := decide (a.kind < b.kind);
 let q1 := Op.bytesLess a.t b.t;
 let q2 := decide (a.n < b.n); bif a.kind != b.kind then .bind q fun y0 => .ag [ao (Env.P lh) 209 [.bool q] [] (aj.mk (aa (↑(Bool.toNat y0) : Int)) [] [])] (.done (aj.mk (aa (IntKind.i64.wrap ((1 : Int) - IntKind.i64.wrap ((2 :
  Int) * (↑(Bool.toNat y0) : Int))))) [] [])) else bif a.n != b.n then .bind q2 fun y1 => .ag [ao (Env.P lh) 209 [.bool q2] [] (aj.mk (aa (↑(Bool.toNat y1) : Int)) [] [])] (.done (aj.mk (aa (IntKind.i64.wrap ((1 : Int) -
  IntKind.i64.wrap ((2 : Int) * (↑(Bool.toNat y1) : Int))))) [] [])) else bif !a.t == b.t then .bind q1 fun y2 => .ag [ao (Env.P lh) 209 [.bool q1] [] (aj.mk (aa (↑(Bool.toNat y2) : Int)) [] [])] (.done (aj.mk (aa
  (IntKind.i64.wrap ((1 : Int) - IntKind.i64.wrap ((2 : Int) * (↑(Bool.toNat y2) : Int))))) [] [])) else .done (aj.mk (aa 0) [] []) : T _) := by kernel_rfl
theorem Oq (b : Bool) : IntKind.i64.wrap (1 - IntKind.i64.wrap (2 * ((b.toNat : Nat) : Int))) = bif b then -1 else 1 := by cases b <;> rfl
theorem K6 (a b : At) : ao Tryz.prog yl [.agg (ak a), .agg (ak b)] [] ⟨.int .i64 (jI a b), [], []⟩ := by
 refine bh (E := lh) follows named (X9 a b) (by simp) ?_
 simp only [az, T.WP, All, aA, Oq]
 unfold jI
 refine ⟨fun h => ?_, fun h => ⟨fun h2 => ?_, fun h2 => ⟨fun h3 => ?_, fun h3 => ?_⟩⟩⟩
 ·rintro y rfl
  rw [h]
  exact ⟨x5 _, aQ⟩
 ·rintro y rfl
  rw [h, h2]
  exact ⟨x5 _, aQ⟩
 ·rintro y rfl
  rw [h, h2, show (a.t != b.t) = true from h3]
  exact ⟨x5 _, aQ⟩
 ·rw [h, h2, show (a.t != b.t) = false from h3]
  exact aQ
def dp (a b : At) : Bool := a.kind == b.kind && (a.n == b.n && (a.t == b.t && true))
theorem qb {a b : At} : dp a b = true ↔ a = b := by
 obtain ⟨k, n, t⟩ := a
 obtain ⟨k', n', t'⟩ := b
 simp [dp]
def cd (d : aU) (a : At) : Bool := d.any fun x => dp x a
theorem Il {d : aU} {a : At} : cd d a = true ↔ a ∈ d := by
 unfold cd
 rw [List.any_eq_true]
 constructor
 ·rintro ⟨x, hx, h⟩
  rw [<- qb.1 h]; exact hx
 ·exact fun h => ⟨a, h, qb.2 rfl⟩
def wF (d : aU) (a : At) (i : Int) : St := ⟨ai 18 [(0, ab ak d), (3, .ptr 0 0), (5, .int .i64 i)], [some (ak a, nT)], []⟩
def J9 : Ex -> Kp := fun ex => match ex with
 | .ret => { keep := [4] }
 | .normal => { keep := [0, 3, 5] }
 | _ => { keep := [] }
theorem Rn (d : aU) (a : At) (i : Int) : bx lh 0 J9 (lp Tryz.prog nh 0) (wF d a i) = (
 let q := List.getD (ae ak (ah ak d)) i.toNat (At.mk (0 : Int) (0 : Int) []); bif decide (i < (↑d.length : Int)) then .ag [0 <= i /\ i < (↑d.length : Int), List.take 3 (List.drop (i.toNat * 3) (ah ak d)) = ak q] (bif
  q.kind == a.kind && (q.n == a.n && (q.t == a.t && true)) then .done (Ex.ret, St.mk (ai 18 [(4, .bool true)]) [] []) else .done (Ex.normal, St.mk (ai 18 [(0, ab ak d), (3, .ptr 0 0), (5, aa (IntKind.i64.wrap (i + 1)))]) [some
  (ak a, 143)] [])) else .done (Ex.exit 0, St.mk (ai 18 []) [] []) : T _) := by kernel_rfl
def qD (d : aU) (a : At) (i : Nat) : Bool := !dp (d.getD i ⟨0, 0, []⟩) a
theorem Rm (d : aU) (a : At) : cd d a = !allN (qD d a) d.length 0 := by
 have := om (fun x => !dp x a) ⟨0, 0, []⟩ d
 show _ = !allN (fun i => !dp (d.getD i ⟨0, 0, []⟩) a) d.length 0
 rw [this]; unfold cd
 induction d with
 | nil => rfl
 | cons x d ih => rw [List.any_cons, List.all_cons, Bool.not_and, Bool.not_not, ih (om (fun x => !dp x a) ⟨0, 0, []⟩ d)]
theorem Rp (d : aU) (a : At) (hd : d.length <= 4294967296) :
  (allN (qD d a) d.length 0 = true -> a8 Tryz.prog 0 (lp Tryz.prog nh 0) (wF d a 0) (.exit 0) ⟨ai 18 [], [], []⟩) /\
  (allN (qD d a) d.length 0 = false -> a8 Tryz.prog 0 (lp Tryz.prog nh 0) (wF d a 0) .ret ⟨ai 18 [(4, .bool true)], [], []⟩) := by
 refine ij (E := lh) (nf := J9) (st := fun i => wF d a (i : Nat)) (n := d.length) (qD d a) follows named (by simp) (by simp) (fun i => Rn d a (i : Nat)) (fun i hi => ?_) ?_ d.length 0 (by simp)
 ·have aL := bq.at d ⟨0, 0, []⟩ i 3 hi rfl
  unfold qD
  simp only [az, T.WP, All, decide_eq_true_eq, decide_eq_false_iff_not, and_true, Int.toNat_natCast, bq.ae, bE (show i < 9223372036854775807 by omega)]
  refine ⟨fun _ => ⟨⟨⟨by omega, by omega⟩, aL⟩, fun h => ?_, fun h => ?_⟩, fun h => by omega⟩
  ·rw [show dp (d.getD i ⟨0, 0, []⟩) a = true from by simpa [dp] using h]; rfl
  ·rw [show dp (d.getD i ⟨0, 0, []⟩) a = false from by simpa [dp] using h]; rfl
 ·simp only [az, T.WP, All, aB, aC, aA]
  exact ⟨fun h => by omega, fun _ => trivial⟩
noncomputable def UJ : Nat -> St -> Option bT := fun id s => match id, s.tm.get 0, s.hp with
 | 0, .dsl _ _ cs, [some ([.int _ k, .int _ n, .str t], _)] => some ⟨cd (ae ak cs) ⟨k, n, t⟩, fun y => .two { keep := [0, 3, 5] } (wF (ae ak cs) ⟨k, n, t⟩ 0) y .ret ⟨ai 18 [(4, .bool true)], [], []⟩ (.exit 0) ⟨ai 18 [], [], []⟩⟩
 | _, _, _ => none
noncomputable def xw : Env := { P := Tryz.prog, vw := rU, res := LV, ls := UJ }
theorem Ro (d : aU) (a : At) : fnT xw 0 nh [ab ak d, .agg (ak a)] [] = (
 let q3 := ae ak (ah ak d);
 let q := ai 18 [(0, ab ak q3), (3, .ptr 0 0), (5, aa 0)];
 let q2 := At.mk a.kind a.n a.t;
 let q1 : Hp := [some (ak q2, 143)]; .bind (cd q3 q2) fun y0 => .ag [St.mk (ai 18 [(0, ab ak d), (3, .ptr 0 0), (5, aa 0)]) [some (ak a, 143)] [] = St.mk q q1 []] (bif y0 then .ag [aV (Env.P xw) 0 (blk Tryz.prog
  nh 0) (St.mk q q1 []) Ex.ret (St.mk (ai 18 [(4, .bool true)]) [] [])] (.done (aj.mk (.bool true) [] [])) else .ag [aV (Env.P xw) 0 (blk Tryz.prog nh 0) (St.mk q q1 []) (Ex.exit 0) (St.mk (ai 18 []) [] [])] (.done
  (aj.mk (.bool false) [] []))) : T _) := (T.force_eq _).symm.trans (by kernel_rfl)
theorem CK (d : aU) (a : At) (hd : d.length <= 4294967296) : ao Tryz.prog nh [ab ak d, .agg (ak a)] [] ⟨.bool (cd d a), [], []⟩ := by
 refine bh (E := xw) follows named (Ro d a) (by simp) ?_
 simp only [az, T.WP, All, aA, bq.ae]
 have hl := Rp d a hd
 rintro y rfl
 rw [Rm]
 refine ⟨bn, fun h => ⟨.bg (hl.2 (by simpa using h)), ?_⟩, fun h => ⟨.bg (hl.1 (by simpa using h)), ?_⟩⟩
 ·rw [show (!allN (qD d a) d.length 0) = true from h]; exact aQ
 ·rw [show (!allN (qD d a) d.length 0) = false from h]; exact aQ
def datK (a : At) (d : aU) : Nat -> Nat
 | 0 => 0
 | k + 1 => bif decide (jI (d.getD k ⟨0, 0, []⟩) a > 0) then datK a d k else k + 1
def dN (d : aU) (a : At) : aU := bif cd d a then d else d.take (datK a d d.length) ++ a :: d.drop (datK a d d.length)
theorem BJ (a : At) (d : aU) : ∀ k, datK a d k <= k
 | 0 => Nat.le_refl _
 | k + 1 => by
  rw [datK]
  have := BJ a d k
  cases decide (jI (d.getD k ⟨0, 0, []⟩) a > 0)
  ·exact Nat.le_refl _
  ·simp only [cond_true]; omega
def wT (d : aU) (a : At) (k : Int) : St := ⟨ai 38 [(0, ab ak d), (3, .ptr 0 0), (5, .int .i64 k)], [some (ak a, nT)], []⟩
def WO : Ex -> Kp := fun _ => { keep := [0, 3, 5] }
theorem Lw (d : aU) (a : At) (k : Int) : bx lh 0 WO (lp Tryz.prog qu 0) (wT d a k) = (
 let q1 := IntKind.i64.wrap (k - 1);
 let q := List.getD (ae ak (ah ak d)) q1.toNat (At.mk (0 : Int) (0 : Int) []);
 let q2 := ai 38 [(0, ab ak d), (3, .ptr 0 0), (5, aa k)];
 let q3 : Hp := [some (ak a, 143)]; bif decide (k > 0) then .ag [0 <= IntKind.i64.wrap (k - 1) /\ IntKind.i64.wrap (k - 1) < (↑d.length : Int), List.take 3 (List.drop (q1.toNat * 3) (ah ak d)) = ak q] (.bind (jI (At.mk
  q.kind q.n q.t) (At.mk a.kind a.n a.t)) fun y0 => .ag [ao (Env.P lh) 239 [.agg (ak q), .agg (ak a)] [] (aj.mk (aa y0) [] [])] (bif decide (y0 > 0) then .done (Ex.normal, St.mk (ai 38 [(0, ab ak d), (3, .ptr 0 0), (5,
  aa q1)]) q3 []) else .done (Ex.exit 0, St.mk q2 q3 []))) else .done (Ex.exit 0, St.mk q2 q3 []) : T _) := by kernel_rfl
theorem LF (d : aU) (a : At) (hd : d.length <= 4294967296) : ∀ k, k <= d.length ->
  a8 Tryz.prog 0 (lp Tryz.prog qu 0) (wT d a k) (.exit 0) (wT d a (datK a d k : Nat))
 | 0, hk => by
  refine bl (E := lh) follows named (Lw d a ((0 : Nat) : Int)) ?_
  simp only [az, T.WP, All, aB, aC, aA]
  exact ⟨fun h => af, fun _ => ⟨rfl, rfl⟩⟩
 | k + 1, hk => by
  have aL := bq.at d ⟨0, 0, []⟩ k 3 af rfl
  have ih := LF d a hd k af
  have w1 : IntKind.i64.wrap (((k + 1 : Nat) : Int) - 1) = (k : Nat) := by rw [cQ af]; omega
  refine bl (E := lh) follows named (Lw d a ((k + 1 : Nat) : Int)) ?_
  simp only [az, T.WP, All, aB, aC, aA, w1, Int.toNat_natCast, bq.ae]
  refine ⟨fun _ => ⟨⟨⟨af, af⟩, aL⟩, ?_⟩, fun h => af⟩
  rintro y rfl
  rw [datK]
  refine ⟨K6 _ _, fun h => ?_, fun h => ?_⟩
  ·rw [decide_eq_true h]; exact ih
  ·rw [decide_eq_false h]; exact ⟨rfl, rfl⟩
noncomputable def Va : Nat -> St -> Option bT := fun id s => match id, s.tm.get 0, s.hp with
 | 0, .dsl _ _ cs, [some ([.int _ k, .int _ n, .str t], _)] => some ⟨datK ⟨k, n, t⟩ (ae ak cs) (ae ak cs).length, fun y => .one { keep := [0, 3, 5] } (wT (ae ak cs) ⟨k, n, t⟩ (ae ak cs).length) (.exit 0) (wT (ae ak cs) ⟨k, n, t⟩ (y : Nat))⟩
 | _, _, _ => none
noncomputable def Zf : cP := fun f vs hp => match vs, hp with
 | [.dsl _ _ cs, .agg [.int _ k, .int _ n, .str t]], [] => bif Nat.beq f nh then some ⟨cd (ae ak cs) ⟨k, n, t⟩, fun y => ⟨.bool y, [], []⟩⟩ else none
 | _, _ => none
noncomputable def xI : Env := { P := Tryz.prog, vw := rU, res := Zf, ls := Va }
theorem YR (d : aU) (a : At) : fnT xI 0 qu [ab ak d, .agg (ak a)] [] = (
 let q7 := ah ak d;
 let q := ae ak q7;
 let q1 := At.mk (At.kind a) (At.n a) (At.t a);
 let q2 := ah ak q;
 let q4 := List.length q;
 let q3 := ai 38 [(0, .dsl q4 false q2), (3, .ptr 0 0), (5, .int .i64 (↑q4 : Int))];
 let q5 := List.take (List.length q * 3) q2;
 let q6 : Hp := [some (ak q1, 143)]; .bind (cd q q1) fun y0 => .ag [ao (Env.P xI) 210 [.dsl d.length false q7, .agg (ak a)] [] (aj.mk (.bool y0) [] [])] (bif y0 then .done (aj.mk (.dsl d.length false q7) [] []) else .bind
  (datK q1 q q4) fun y1 =>
 let q8 := Int.toNat (↑y1 : Int) - 0;
 let q9 := Int.toNat (↑y1 : Int) * 3;
 let br := List.length q - Int.toNat (↑y1 : Int);
 let bD := List.take q9 q2;
 let bL : List Prop := [(0 : Int) <= (↑y1 : Int) /\ (↑y1 : Int) <= (↑q4 : Int)];
 let ca := List.drop 0 bD; .ag [St.mk (ai 38 [(0, .dsl d.length false q7), (3, .ptr 0 0), (5, .int .i64 (↑d.length : Int))]) [some (ak a, 143)] [] = St.mk q3 q6 [], aV (Env.P xI) 0 (blk Tryz.prog qu 0) (St.mk q3 q6 [])
  (Ex.exit 0) (St.mk (ai 38 [(0, .dsl q4 false q2), (3, .ptr 0 0), (5, .int .i64 (↑y1 : Int))]) q6 [])] (.ag bL (.ag [List.length ca = q8 * 3, List.all ca V.one = true, 0 = 0, 0 = 0, 0 + q8 <= 9223372036854775807, (0 + q8) * 32 <=
  140737488355328] (.ag [0 = 0, List.length ca = (0 + q8) * 3, 0 + q8 + 1 <= 9223372036854775807, (0 + q8 + 1) * 32 <= 140737488355328] (.ag bL (.ag [List.length (List.drop q9 q5) = br * 3, List.all (List.drop q9 q5) V.one = true,
  0 = 0, List.length (List.drop 0 bD ++ [.int .i64 (At.kind q1), .int .i64 (At.n q1), .str (At.t q1)]) = (0 + q8 + 1) * 3, 0 + q8 + 1 + br <= 9223372036854775807, (0 + q8 + 1 + br) * 32 <= 140737488355328] (.done (aj.mk (.dsl (0 + q8 +
  1 + br) false (List.drop 0 bD ++ .int .i64 (At.kind q1) :: .int .i64 (At.n q1) :: .str (At.t q1) :: List.drop q9 q5)) [] [])))))))) : T _) := (T.force_eq _).symm.trans (by kernel_rfl)
theorem zJ (d : aU) (a : At) (hd : d.length <= 1048576) : ao Tryz.prog qu [ab ak d, .agg (ak a)] [] ⟨ab ak (dN d a), [], []⟩ := by
 refine bh (E := xI) follows named (YR d a) (by simp) ?_
 simp only [az, T.WP, All, aA, bq.ae]
 have hl := LF d a (by omega) d.length (Nat.le_refl _)
 have hk := BJ a d d.length
 rintro y rfl
 have ea : (⟨a.kind, a.n, a.t⟩ : At) = a := rfl
 refine ⟨CK d a (by omega), fun h => ?_, fun h => ?_⟩
 ·have e : dN d a = d := by unfold dN; rw [show cd d a = true from h]; rfl
  rw [e]; exact ⟨rfl, rfl, by simp⟩
 ·have e : dN d a = d.take (datK a d d.length) ++ a :: d.drop (datK a d d.length) := by unfold dN; rw [show cd d a = false from h]; rfl
  rw [e]
  rintro y rfl
  generalize datK a d d.length = k at *
  have t1 : List.drop 0 (List.take (k * 3) (ah ak d)) = ah ak (d.take k) := by rw [List.drop_zero, bq.take]
  have t2 : List.drop (k * 3) (List.take (d.length * 3) (ah ak d)) = ah ak (d.drop k) := by
   rw [List.take_of_length_le (by rw [bq.length]; exact Nat.le_refl _), bq.drop]
  simp only [Int.toNat_natCast, t1, t2, bq.length, bq.all, List.length_take, List.length_drop, List.length_append, List.length_cons, List.length_nil, Nat.min_eq_left hk]
  refine ⟨⟨bn, .bg hl⟩, ⟨by omega, by omega⟩, ⟨by omega, bn, bn, bn, by omega, by omega⟩, ⟨bn, by omega, by omega, by omega⟩, ⟨by omega, by omega⟩, ⟨bn, bn, bn, by omega, by omega, by omega⟩, ?_⟩
  have e2 : ab ak (d.take k ++ a :: d.drop k) = .dsl (0 + (k - 0) + 1 + (d.length - k)) false (ah ak (d.take k) ++ V.int .i64 a.kind :: V.int .i64 a.n :: V.str a.t :: ah ak (d.drop k)) := by
   have e3 : ah ak (d.take k ++ a :: d.drop k) = ah ak (d.take k) ++ V.int .i64 a.kind :: V.int .i64 a.n :: V.str a.t :: ah ak (d.drop k) := by rw [qk, eu]; rfl
   unfold ab
   rw [e3]
   congr 1
   simp only [List.length_append, List.length_take, List.length_cons, List.length_drop, Nat.min_eq_left hk]; omega
  rw [e2]; exact ⟨rfl, rfl, by simp⟩
noncomputable def Y5 : cP := fun f vs hp => match vs, hp with
 | [.ptr 0 0, .int _ n], [some ([.dsl _ _ cs, .int _ k, .int _ s], _)] => bif Nat.beq f kh then some ⟨aX (bc cs k s) n, fun y => ⟨.int .i64 y.1, [au y.2], [0]⟩⟩ else none
 | [.ptr 0 0, .sl 1 0 _ _], [some ([.dsl _ _ cs, .int _ k, .int _ s], _), some (c, t)] => bif Nat.beq f sU then some ⟨dH (bc cs k s) (jC c), fun y => ⟨.str y.1, [au y.2, some (c, t)], [0]⟩⟩ else none
 | _, _ => none
noncomputable def r8 : Env := { P := Tryz.prog, vw := rU, res := Y5 }
theorem Ok (x : Src) (k : Int) : fnT r8 0 ya [.ptr 0 0, .int .i64 k] [au x] = (
 let q := bc (ah aR x.l) (↑x.k : Int) x.s;
 let q1 : List V := [.str [], .str [97], .str [98], .str [99], .str [110, 101, 116]]; bif k == 1 then .bind (aX q (12 : Int)) fun y0 => .ag [ao (Env.P r8) 103 [.ptr 0 0, aa 12] [au x] (aj.mk (aa y0.1) [au y0.2] [0])]
  (.done (aj.mk (.agg [aa k, aa (IntKind.i64.wrap (y0.1 - 4)), .str []]) [au y0.2] [0])) else bif k == 2 then .bind (dH q (jC q1)) fun y1 => .ag [ao (Env.P r8) 150 [.ptr 0 0, .sl 1 0 5 true] [au x, some (q1, 9)]
  (aj.mk (.str y1.1) [au y1.2, some (q1, 9)] [0])] (.done (aj.mk (.agg [aa k, aa 0, .str y1.1]) [au y1.2] [0])) else bif k == 3 then .bind (aX q (2 : Int)) fun y2 => .ag [ao (Env.P r8) 103 [.ptr 0 0, aa 2] [au x]
  (aj.mk (aa y2.1) [au y2.2] [0])] (.done (aj.mk (.agg [aa k, aa y2.1, .str []]) [au y2.2] [0])) else .bind (aX q (6 : Int)) fun y3 => .ag [ao (Env.P r8) 103 [.ptr 0 0, aa 6] [au x] (aj.mk (aa y3.1) [au y3.2]
  [0])] (.done (aj.mk (.agg [aa 4, aa (IntKind.i64.wrap ((1 : Int) + y3.1)), .str []]) [au y3.2] [0])) : T _) := by kernel_rfl
def qc : List (List UInt8) := [[], [97], [98], [99], [110, 101, 116]]
def cS (x : Src) (k : Int) : At × Src :=
 if k = 1 then (⟨1, (aX x 12).1 - 4, []⟩, (aX x 12).2)
 else if k = 2 then (⟨2, 0, (dH x qc).1⟩, (dH x qc).2)
 else if k = 3 then (⟨3, (aX x 2).1, []⟩, (aX x 2).2)
 else (⟨4, 1 + (aX x 6).1, []⟩, (aX x 6).2)
theorem kK (x : Src) (k : Int) {c : Nat} (h : x.OK (c + 3)) : (cS x k).2.OK c := by
 unfold cS
 split
 ·exact (dx h af).1
 ·split
  ·exact (rj h (by simp [qc])).1
  ·split
   ·exact (dx h af).1
   ·exact (dx h af).1
theorem qe (x : Src) (k : Int) {c : Nat} (h : x.OK (c + 3)) : ao Tryz.prog ya [.ptr 0 0, .int .i64 k] [au x] ⟨.agg (ak (cS x k).1), [au (cS x k).2], [0]⟩ := by
 refine bh (E := r8) follows named (Ok x k) (by simp) ?_
 simp only [az, T.WP, All, aA, aD, aE, aF, dF]
 unfold cS
 refine ⟨fun h1 => ?_, fun h1 => ⟨fun h2 => ?_, fun h2 => ⟨fun h3 => ?_, fun h3 => ?_⟩⟩⟩
 ·rintro y rfl
  have := dx (n := 12) h af
  rw [if_pos h1, h1, cQ af]
  exact ⟨fc _ _ h, aQ⟩
 ·rintro y rfl
  rw [if_neg h1, if_pos h2, h2]
  exact ⟨zF x qc true rfl rfl rfl h, aQ⟩
 ·rintro y rfl
  rw [if_neg h1, if_neg h2, if_pos h3, h3]
  exact ⟨fc _ _ h, aQ⟩
 ·rintro y rfl
  have := dx (n := 6) h af
  rw [if_neg h1, if_neg h2, if_neg h3, cQ af]
  exact ⟨fc _ _ h, aQ⟩
def dtmL (k : Int) : Nat -> Src -> aU -> aU × Src
 | 0, x, d => (d, x)
 | n + 1, x, d => dtmL k n (cS x k).2 (dN d (cS x k).1)
def gS (x : Src) (k : Int) : aU × Src := dtmL k (aX x 5).1.toNat (aX x 5).2 []
noncomputable def LW : cP := fun f vs hp => match vs, hp with
 | [.ptr 0 0, .int _ n], [some ([.dsl _ _ cs, .int _ k, .int _ s], _)] => bif Nat.beq f kh then some ⟨aX (bc cs k s) n, fun y => ⟨.int .i64 y.1, [au y.2], [0]⟩⟩
  else bif Nat.beq f ya then some ⟨cS (bc cs k s) n, fun y => ⟨.agg (ak y.1), [au y.2], [0]⟩⟩ else none
 | [.dsl _ _ cs, .agg [.int _ k, .int _ n, .str t]], [] => bif Nat.beq f qu then some ⟨dN (ae ak cs) ⟨k, n, t⟩, fun y => ⟨ab ak y, [], []⟩⟩ else none
 | _, _ => none
noncomputable def uw : Env := { P := Tryz.prog, vw := rU, res := LW }
def wz (x : Src) (k : Int) (d : aU) (i : Int) : St := ⟨ai 20 [(0, .ptr 0 0), (1, .int .i64 k), (5, ab ak d), (6, .int .i64 i)], [au x], [0]⟩
def Ws : Ex -> Kp := fun _ => { keep := [0, 1, 5, 6], wr := [0] }
theorem Hq (x : Src) (k : Int) (d : aU) (i : Int) : bx uw 1 Ws (lp Tryz.prog sO 0) (wz x k d i) = (
 bif decide (i > 0) then .bind (cS (bc (ah aR x.l) (↑x.k : Int) x.s) k) fun y0 => .ag [ao (Env.P uw) 106 [.ptr 0 0, aa k] [au x] (aj.mk (.agg (ak y0.1)) [au y0.2] [0])] (.bind (dN (ae ak (ah ak d))
  (At.mk y0.1.kind y0.1.n y0.1.t)) fun y1 => .ag [ao (Env.P uw) 186 [ab ak d, .agg (ak y0.1)] [] (aj.mk (ab ak y1) [] [])] (.done (Ex.normal, St.mk (ai 20 [(0, .ptr 0 0), (1, aa k), (5, ab ak y1), (6, aa
  (IntKind.i64.wrap (i - 1)))]) [au y0.2] [0]))) else .done (Ex.exit 0, St.mk (ai 20 [(0, .ptr 0 0), (1, aa k), (5, ab ak d), (6, aa i)]) [au x] [0]) : T _) := by kernel_rfl
theorem oA (d : aU) (a : At) : (dN d a).length <= d.length + 1 := by
 unfold dN
 cases cd d a
 ·simp only [cond_false, List.length_append, List.length_take, List.length_cons, List.length_drop]; omega
 ·simp only [cond_true]; omega
theorem Hs (k : Int) : ∀ (n : Nat) (x : Src) (d : aU), (dtmL k n x d).1.length <= d.length + n
 | 0, x, d => Nat.le_refl _
 | n + 1, x, d => by
  rw [dtmL]
  have := Hs k n (cS x k).2 (dN d (cS x k).1)
  have := oA d (cS x k).1
  omega
theorem Hr (k : Int) : ∀ (n : Nat) (x : Src) (d : aU) (c : Nat), x.OK (c + n * 3) -> (dtmL k n x d).2.OK c
 | 0, x, d, c, h => h.less af
 | n + 1, x, d, c, h => by
  rw [dtmL]
  exact Hr k n _ _ c (kK x k (c := c + n * 3) (h.less af))
theorem Hu (k : Int) : ∀ (n : Nat) (x : Src) (d : aU) (c : Nat), x.OK (c + n * 3) -> d.length + n <= 1000000 ->
  a8 Tryz.prog 1 (lp Tryz.prog sO 0) (wz x k d n) (.exit 0) (wz (dtmL k n x d).2 k (dtmL k n x d).1 0)
 | 0, x, d, c, h, hd => by
  refine bl (E := uw) follows named (Hq x k d ((0 : Nat) : Int)) ?_
  simp only [az, T.WP, All, aB, aC, aA]
  exact ⟨fun h => af, fun _ => ⟨rfl, rfl⟩⟩
 | n + 1, x, d, c, h, hd => by
  have hc := kK x k (c := c + n * 3) (h.less af)
  have hl := oA d (cS x k).1
  have ih := Hu k n (cS x k).2 (dN d (cS x k).1) c hc af
  have w1 : IntKind.i64.wrap (((n + 1 : Nat) : Int) - 1) = (n : Nat) := by rw [cQ af]; omega
  refine bl (E := uw) follows named (Hq x k d ((n + 1 : Nat) : Int)) ?_
  simp only [az, T.WP, All, aB, aC, aA, w1, dF, bq.ae]
  refine ⟨fun _ => ?_, fun h => af⟩
  rintro y rfl
  refine ⟨qe x k (c := c + n * 3) (h.less af), ?_⟩
  rintro y rfl
  exact ⟨zJ d _ af, ih⟩
noncomputable def UE : Nat -> St -> Option bT := fun id s => match id, s.tm.get 1, s.tm.get 6, s.hp with
 | 0, .int _ k, .int _ i, some ([.dsl _ _ cs, .int _ a, .int _ b], _) :: _ => some ⟨dtmL k i.toNat (bc cs a b) [], fun y => .one { keep := [0, 1, 5, 6], wr := [0], perm := some ([0], []) } (wz (bc cs a b) k [] i) (.exit 0) (wz y.2 k y.1 0)⟩
 | _, _, _, _ => none
noncomputable def xt : Env := { P := Tryz.prog, vw := rU, res := LW, ls := UE }
theorem Qc (x : Src) (k : Int) : fnT xt 0 sO [.ptr 0 0, .int .i64 k] [au x] = (
 .bind (aX (bc (ah aR x.l) (↑x.k : Int) x.s) (5 : Int)) fun y0 =>
 let q := ai 20 [(0, .ptr 0 0), (1, aa k), (5, .dsl 0 false []), (6, aa y0.1)];
 let q1 := bc (ah aR y0.2.l) (↑y0.2.k : Int) y0.2.s; .ag [ao (Env.P xt) 103 [.ptr 0 0, aa 5] [au x] (aj.mk (aa y0.1) [au y0.2] [0])] (.bind (dtmL k y0.1.toNat q1 []) fun y1 => .ag [St.mk q [au y0.2] [0] = St.mk
  q [au q1] [0], aV (Env.P xt) 1 (blk Tryz.prog sO 0) (St.mk q [au q1] [0]) (Ex.exit 0) (St.mk (ai 20 [(0, .ptr 0 0), (1, aa k), (5, ab ak y1.1), (6, aa 0)]) [au y1.2] [0])] (.done (aj.mk (ab ak y1.1) [au
  y1.2] [0]))) : T _) := (T.force_eq _).symm.trans (by kernel_rfl)
theorem uS (x : Src) (k : Int) {c : Nat} (h : x.OK (c + 15)) : (gS x k).2.OK c := by
 have h1 := dx (c := c + 12) (n := 5) (h.less af) af
 unfold gS
 exact Hr k _ _ _ c (h1.1.less af)
theorem x7 (x : Src) (k : Int) {c : Nat} (h : x.OK (c + 15)) : ao Tryz.prog sO [.ptr 0 0, .int .i64 k] [au x] ⟨ab ak (gS x k).1, [au (gS x k).2], [0]⟩ := by
 have h1 := dx (c := c + 12) (n := 5) (h.less (by omega)) (by omega)
 refine bh (E := xt) follows named (Qc x k) (by simp) ?_
 simp only [T.WP, All, aA, dF]
 have hl := Hu k (aX x 5).1.toNat (aX x 5).2 [] c (h1.1.less (by omega)) (by simp only [List.length_nil]; omega)
 rw [show (((aX x 5).1.toNat : Nat) : Int) = (aX x 5).1 by omega] at hl
 rintro y rfl
 refine ⟨fc (c := c + 12) _ _ (h.less (by omega)), ?_⟩
 rintro y rfl
 exact ⟨⟨bn, .bg hl⟩, ⟨rfl, rfl, by simp⟩⟩
def l5 (S : aS) : aM := ⟨S.map fun _ => [], 1⟩
def ct (rows : List Rw) (id : Int) : Int := fidx (fun r : Rw => r.id == id) rows 0
def rowsUp : List Rw -> Int -> Nat
 | [], _ => 0
 | r :: rs, id => bif decide (r.id < id) then rowsUp rs id + 1 else 0
def mR (rows : List Rw) (k : Nat) (id : Int) : List Rw := bif decide (k < rows.length) && (rows.getD k .zero).id == id then rows.drop (k + 1) else rows.drop k
def ie (rows : List Rw) (r : Rw) : List Rw := rows.take (rowsUp rows r.id) ++ r :: mR rows (rowsUp rows r.id) r.id
def il (x : aM) (t : Nat) (r : Rw) : aM := ⟨x.ar.set t (ie (x.ar.getD t []) r), x.next⟩
def fq (rows : List Rw) (k : Nat) : List Rw := rows.take k ++ rows.drop (k + 1)
def ik (x : aM) (t k : Nat) : aM := ⟨x.ar.set t (fq (x.ar.getD t []) k), x.next⟩
def sumN (f : Nat -> Nat) : Nat -> Nat -> Nat
 | 0, _ => 0
 | n + 1, i => f i + sumN f n (i + 1)
def gg (S : aS) (i c : Nat) : bt := (S.getD i .zero).aw.getD c .zero
def iM (x : aM) (i k : Nat) : Rw := (x.ar.getD i []).getD k .zero
def jj (x : aM) (i k c : Nat) : aU := (iM x i k).cells.getD c []
def l7 (x : aM) (id : Int) (i c k : Nat) : Nat := (cd (jj x i k c) ⟨4, id, []⟩).toNat
def ui (S : aS) (x : aM) (nm : List UInt8) (id : Int) (i c : Nat) : Nat := bif !(gg S i c).eR || (gg S i c).ref != nm then 0 else sumN (l7 x id i c) (x.ar.getD i []).length 0
def rM (S : aS) (x : aM) (nm : List UInt8) (id : Int) (i : Nat) : Nat := sumN (ui S x nm id i) (S.getD i .zero).aw.length 0
def eS (S : aS) (x : aM) (t : Nat) (id : Int) : Nat := sumN (rM S x (S.getD t .zero).name id) x.ar.length 0
def pF (there : List Rw) (d : aU) (n : Nat) : Bool := decide (0 <= ct there (d.getD n .zero).n)
def pG (there : List Rw) (x : aM) (i c k : Nat) : Bool := allN (pF there (jj x i k c)) (jj x i k c).length 0
def Ew (S : aS) (x : aM) (i c : Nat) : Bool := (gg S i c).kind != 4 || allN (pG (x.ar.getD (cV S (gg S i c).ref).toNat []) x i c) (x.ar.getD i []).length 0
def tS (S : aS) (x : aM) (i : Nat) : Bool := allN (Ew S x i) (S.getD i .zero).aw.length 0
def pH (S : aS) (x : aM) : Bool := allN (tS S x) x.ar.length 0
def rQ (S : aS) (x : aM) (i k j n : Nat) : Bool := decide (jj x i k ((S.getD i .zero).uniq.getD n 0).toNat = jj x i j ((S.getD i .zero).uniq.getD n 0).toNat)
def FD (S : aS) (x : aM) (i k j : Nat) : Bool := !allN (rQ S x i k j) (S.getD i .zero).uniq.length 0
def rP (S : aS) (x : aM) (i k : Nat) : Bool := allN (FD S x i k) k 0
def rS (S : aS) (x : aM) (i : Nat) : Bool := decide ((S.getD i .zero).uniq.length = 0) || allN (rP S x i) (x.ar.getD i []).length 0
def pV (S : aS) (x : aM) : Bool := allN (rS S x) x.ar.length 0
def mj (S : aS) (x : aM) : Int := bif !pH S x then 13 else bif !pV S x then 12 else 0
def swK (S : aS) (i : Nat) : Nat -> Nat -> aM -> Bool -> aM × Bool
 | 0, _, x, g => (x, g)
 | n + 1, k, x, g => bif decide (k < (x.ar.getD i []).length) then
   (bif !(S.getD i .zero).root && eS S x i (iM x i k).id == 0 then swK S i n k (ik x i k) true else swK S i n (k + 1) x g) else (x, g)
def rN (S : aS) : Nat -> Nat -> aM -> Bool -> aM × Bool
 | 0, _, x, g => (x, g)
 | n + 1, i, x, g => rN S n (i + 1) (swK S i ((x.ar.getD i []).length) 0 x g).1 (swK S i ((x.ar.getD i []).length) 0 x g).2
def iH (there : List Rw) (d : aU) : aU := d.filter fun a => decide (0 <= ct there a.n)
def eD (there : List Rw) (c : Nat) (r : Rw) : Rw := ⟨r.id, r.cells.set c (iH there (r.cells.getD c []))⟩
def idsF : List Op' -> Int -> List Int
 | [], _ => []
 | o :: t, n => bif o.kind == 1 then n :: idsF t (n + 1) else 0 :: idsF t n
def lR (ops : List Op') (t : List UInt8) : Int := fidx (fun o : Op' => o.kind == 1 && o.name == t) ops 0
def gJ (ops : List Op') (ids : List Int) (t : List UInt8) : Int := bif decide (0 <= lR ops t) then ids.getD (lR ops t).toNat 0 else 0
def setN (ops : List Op') (ids : List Int) : List (List UInt8) -> aU -> Option aU
 | [], v => some v
 | t :: ts, v => bif gJ ops ids t == 0 then none else setN ops ids ts (dN v ⟨4, gJ ops ids t, []⟩)
def setsL (ops : List Op') (ids : List Int) : List Sx -> List Sx -> List Sx × Int
 | [], out => (out, 0)
 | x :: xs, out => match setN ops ids x.names x.val with
  | none => (out, 13)
  | some v => setsL ops ids xs (out ++ [⟨x.aG, v, []⟩])
def gy (ops : List Op') (ids : List Int) (l : List Sx) : List Sx × Int := setsL ops ids l []
def gR (c : bt) : aU := bif c.min == 0 then [] else bif c.kind == 1 then [⟨c.kind, max c.low (min c.high 0), []⟩] else [⟨c.kind, 0, []⟩]
def gi (t : Tb) (id : Int) : Rw := ⟨id, t.aw.map gR⟩
def setRL (t : Tb) : List Sx -> Rw -> Rw × Int
 | [], r => (r, 0)
 | s :: ss, r => bif cX (t.aw.getD (bf t s.aG).toNat .zero) s.val != 0 then (.zero, cX (t.aw.getD (bf t s.aG).toNat .zero) s.val)
  else setRL t ss ⟨r.id, r.cells.set (bf t s.aG).toNat s.val⟩
def joinF : aU -> aU -> aU
 | a, [] => a
 | a, x :: b => joinF (dN a x) b
def dr (a b : aU) : aU := a.filter fun x => !cd b x
def iq : List UInt8 := [95, 117, 117, 105, 100]
def dS (t : Tb) (r : Rw) (nm : List UInt8) : aU := bif decide (bf t nm < 0) then [⟨4, r.id, []⟩] else r.cells.getD (bf t nm).toNat []
def cN (t : Tb) (r : Rw) (c : a6) : Bool :=
 let d := dS t r c.aG
 bif c.func == 1 then decide (d = c.val) else bif c.func == 2 then !decide (d = c.val)
 else bif c.func == 7 then (dr c.val d).length == 0 else bif c.func == 8 then (dr c.val d).length == c.val.length
 else bif d.length == 0 then false
 else
  let a := (d.getD 0 .zero).n
  let b := (c.val.getD 0 .zero).n
  bif c.func == 3 then decide (a < b) else bif c.func == 4 then decide (a <= b) else bif c.func == 5 then decide (a > b) else decide (a >= b)
def cE (t : Tb) (r : Rw) (l : List a6) : Bool := l.all fun c => cN t r c
def bK (t : Tb) (rows : List Rw) (l : List a6) : List Int := (rows.filter fun r => cE t r l).map Rw.id
def eM (t : Tb) (c : a6) : Int :=
 let k := bf t c.aG
 let kind := bif decide (0 <= k) then (t.aw.getD k.toNat .zero).kind else 4
 bif decide (k < 0) && c.aG != iq then 11
 else bif decide (0 < c.val.length) && (c.val.getD 0 .zero).kind != kind then 9
 else bif bz c.func 3 6 && (kind != 1 || (t.aw.getD k.toNat .zero).max != 1 || c.val.length != 1) then 9
 else 0
def firstC {α : Type} (f : α -> Int) : List α -> Int
 | [] => 0
 | x :: xs => bif f x != 0 then f x else firstC f xs
def gu (t : Tb) (m : Mt) : Int :=
 let k := bf t m.aG
 let kind := (t.aw.getD k.toNat .zero).kind
 bif decide (k < 0) then 11
 else bif decide (0 < m.val.length) && (m.val.getD 0 .zero).kind != kind then 9
 else bif decide (m.func <= 5) && (kind != 1 || m.val.length != 1) then 9 else 0
def j3 (t : Tb) (l : List Sx) (i : Nat) : Int :=
 let s := l.getD i .zero
 let k := bf t s.aG
 let kind := (t.aw.getD k.toNat .zero).kind
 bif decide (k < 0) then 11
 else bif (l.take i).any (fun q => q.aG == s.aG) then 8
 else bif (decide (0 < s.val.length) && (s.val.getD 0 .zero).kind != kind) || (decide (0 < s.names.length) && kind != 4) then 9 else 0
def jY (t : Tb) (nm : List UInt8) : Int := bif nm != iq && decide (bf t nm < 0) then 11 else 0
def gK (S : aS) (o : Op') : Int :=
 bif decide (7 <= o.kind) then (bif o.kind == 10 && !ia o.name then 3 else 0)
 else
  let k := cV S o.table
  let t := S.getD k.toNat .zero
  bif decide (k < 0) then 10
  else bif o.kind == 1 && o.name != [] && !ia o.name then 3
  else bif firstC (jY t) o.aw != 0 then firstC (jY t) o.aw
  else bif firstC (eM t) o.bC != 0 then firstC (eM t) o.bC
  else bif firstC (j3 t o.row) (List.range o.row.length) != 0 then firstC (j3 t o.row) (List.range o.row.length)
  else firstC (gu t) o.db
abbrev m4 (rows : List Rw) : Prop := rows.Pairwise fun a b => a.id < b.id
theorem zP (r : Rw) : ie [] r = [r] := rfl
theorem tW {a : Rw} {t : List Rw} {r : Rw} (h : a.id < r.id) : ie (a :: t) r = a :: ie t r := by
 unfold ie
 rw [rowsUp, decide_eq_true h, cond_true, List.take_succ_cons, List.cons_append]
 congr 3
 unfold mR
 simp only [List.length_cons, List.getD_cons_succ, List.drop_succ_cons, Nat.add_lt_add_iff_right]
theorem tV {a : Rw} {t : List Rw} {r : Rw} (h : ¬ a.id < r.id) : ie (a :: t) r = r :: (if a.id = r.id then t else a :: t) := by
 unfold ie
 rw [rowsUp, decide_eq_false h, cond_false, List.take_zero, List.nil_append]
 unfold mR
 simp only [List.length_cons, List.getD_cons_zero, Nat.zero_add, List.drop_succ_cons, List.drop_zero, Nat.zero_lt_succ, decide_true, Bool.true_and]
 by_cases e : a.id = r.id
 ·rw [if_pos e, show (a.id == r.id) = true by simpa using e, cond_true]
 ·rw [if_neg e, show (a.id == r.id) = false by simpa using e, cond_false]
theorem zp {r x : Rw} : ∀ {rows : List Rw}, x ∈ ie rows r -> x = r \/ x ∈ rows
 | [], h => .inl (by simpa [zP] using h)
 | a :: t, h => by
  by_cases e : a.id < r.id
  ·rw [tW e] at h
   rcases List.mem_cons.1 h with h | h
   ·exact .inr (by simp [h])
   ·exact (zp h).imp id (fun h => List.mem_cons_of_mem _ h)
  ·rw [tV e] at h
   rcases List.mem_cons.1 h with h | h
   ·exact .inl h
   ·split at h
    ·exact .inr (List.mem_cons_of_mem _ h)
    ·exact .inr h
theorem YS {r : Rw} : ∀ {rows : List Rw}, r ∈ ie rows r
 | [] => by simp [zP]
 | a :: t => by
  by_cases e : a.id < r.id
  ·rw [tW e]; exact List.mem_cons_of_mem _ YS
  ·rw [tV e]; simp
theorem LA {r : Rw} {j : Int} : ∀ {rows : List Rw}, (∃ y ∈ rows, y.id = j) -> ∃ y ∈ ie rows r, y.id = j
 | [], ⟨_, h, _⟩ => by cases h
 | a :: t, ⟨y, h, hj⟩ => by
  by_cases e : a.id < r.id
  ·rw [tW e]
   rcases List.mem_cons.1 h with rfl | h
   ·exact ⟨y, by simp, hj⟩
   ·obtain ⟨z, hz, Tx⟩ := LA (r := r) ⟨y, h, hj⟩
    exact ⟨z, List.mem_cons_of_mem _ hz, Tx⟩
  ·rw [tV e]
   by_cases e2 : a.id = r.id
   ·rw [if_pos e2]
    rcases List.mem_cons.1 h with rfl | h
    ·exact ⟨r, by simp, by rw [<- e2]; exact hj⟩
    ·exact ⟨y, by simp [h], hj⟩
   ·rw [if_neg e2]
    exact ⟨y, List.mem_cons_of_mem _ h, hj⟩
theorem LD {r : Rw} : ∀ {rows : List Rw}, m4 rows -> m4 (ie rows r)
 | [], _ => by simp [zP]
 | a :: t, h => by
  obtain ⟨h1, h2⟩ := List.pairwise_cons.1 h
  by_cases e : a.id < r.id
  ·rw [tW e]
   refine List.pairwise_cons.2 ⟨fun y hy => ?_, LD h2⟩
   rcases zp hy with rfl | hy
   ·exact e
   ·exact h1 y hy
  ·rw [tV e]
   split
   ·rename_i e2
    exact List.pairwise_cons.2 ⟨fun y hy => by have := h1 y hy; omega, h2⟩
   ·refine List.pairwise_cons.2 ⟨fun y hy => ?_, h⟩
    rcases List.mem_cons.1 hy with rfl | hy
    ·omega
    ·have := h1 y hy; omega
theorem LB {r : Rw} : ∀ {rows : List Rw}, (ie rows r).length <= rows.length + 1
 | [] => by simp [zP]
 | a :: t => by
  by_cases e : a.id < r.id
  ·rw [tW e, List.length_cons, List.length_cons]
   have := LB (r := r) (rows := t)
   omega
  ·rw [tV e]
   split <;> simp
theorem LC {r : Rw} : ∀ {rows : List Rw}, m4 rows -> (∃ y ∈ rows, y.id = r.id) -> (ie rows r).length = rows.length
 | [], _, ⟨_, h, _⟩ => by cases h
 | a :: t, h, ⟨y, hy, hj⟩ => by
  obtain ⟨h1, h2⟩ := List.pairwise_cons.1 h
  by_cases e : a.id < r.id
  ·rw [tW e, List.length_cons, List.length_cons]
   rcases List.mem_cons.1 hy with rfl | hy
   ·omega
   ·rw [LC h2 ⟨y, hy, hj⟩]
  ·rw [tV e]
   split
   ·simp
   ·rename_i e2
    rcases List.mem_cons.1 hy with rfl | hy
    ·exact absurd hj e2
    ·have := h1 y hy; omega
theorem s8 {α : Type} {p : α -> Bool} : ∀ {l : List α} {i : Nat}, 0 <= fidx p l i ↔ ∃ x ∈ l, p x = true
 | [], i => by simp [fidx]
 | a :: t, i => by
  rw [fidx]
  cases h : p a
  ·rw [cond_false, s8 (l := t)]
   simp [h]
  ·rw [cond_true]
   exact ⟨fun _ => ⟨a, by simp, h⟩, fun _ => af⟩
theorem Ys {rows : List Rw} {id : Int} : 0 <= ct rows id ↔ ∃ r ∈ rows, r.id = id := by
 unfold ct
 rw [s8]
 simp
theorem Md (rows : List Rw) (k : Nat) : (fq rows k).Sublist rows := by
 unfold fq
 have h := (List.Sublist.refl (rows.take k)).append (List.drop_sublist 1 (rows.drop k))
 rw [List.take_append_drop, List.drop_drop] at h
 exact h
theorem P9 {rows : List Rw} {k : Nat} {j : Int} (hk : k < rows.length) (h : ∃ y ∈ rows, y.id = j) (bp : (rows.getD k .zero).id ≠ j) : ∃ y ∈ fq rows k, y.id = j := by
 obtain ⟨y, hy, hj⟩ := h
 have e : rows.take k ++ rows.getD k .zero :: rows.drop (k + 1) = rows := by
  rw [List.getD_eq_getElem?_getD, List.getElem?_eq_getElem hk, Option.getD_some, List.getElem_cons_drop, List.take_append_drop]
 rw [<- e] at hy
 unfold fq
 rcases List.mem_append.1 hy with h | h
 ·exact ⟨y, List.mem_append.2 (.inl h), hj⟩
 ·rcases List.mem_cons.1 h with rfl | h
  ·exact absurd hj bp
  ·exact ⟨y, List.mem_append.2 (.inr h), hj⟩
theorem u7 {α : Type} {l : List α} {i j : Nat} {x d : α} (h : i < l.length) : (l.set i x).getD j d = if i = j then x else l.getD j d := by
 rw [List.getD_eq_getElem?_getD, List.getElem?_set]
 split
 ·rename_i e
  subst e
  simp []
 ·rw [List.getD_eq_getElem?_getD]
def fR (a b : At) : Prop := a.kind < b.kind \/ (a.kind = b.kind /\ (a.n < b.n \/ (a.n = b.n /\ a.t < b.t)))
theorem GU {a b : Int} (h : a ≠ b) : (uO a b < 0 ↔ a < b) /\ (uO a b > 0 ↔ b < a) := by
 unfold uO
 by_cases hl : a < b
 ·rw [decide_eq_true hl]; simp; omega
 ·rw [decide_eq_false hl]; simp; omega
theorem FC {a b : List UInt8} (h : a ≠ b) : ¬ a < b ↔ b < a := by
 constructor
 ·intro hl
  have h1 : b <= a := List.not_lt.1 hl
  by_cases h2 : b < a
  ·exact h2
  ·exact absurd (List.le_antisymm (List.not_lt.1 h2) h1) h
 ·exact fun h1 h2 => List.lt_irrefl a (List.lt_trans h2 h1)
theorem O8 {a b : List UInt8} (h : a ≠ b) : (x4 a b < 0 ↔ a < b) /\ (x4 a b > 0 ↔ b < a) := by
 unfold x4
 rw [bytesLess_eq]
 by_cases hl : a < b
 ·rw [decide_eq_true hl]
  simp only [cond_true]
  refine ⟨⟨fun _ => hl, fun _ => af⟩, ⟨fun h => af, fun h2 => absurd hl ((FC h).2 h2)⟩⟩
 ·rw [decide_eq_false hl]
  simp only [cond_false]
  exact ⟨⟨fun h => af, fun h => absurd h hl⟩, ⟨fun _ => (FC h).1 hl, fun _ => af⟩⟩
theorem Br (a b : At) : (jI a b < 0 ↔ fR a b) /\ (jI a b > 0 ↔ fR b a) := by
 unfold jI fR
 by_cases h1 : a.kind = b.kind
 ·rw [show (a.kind != b.kind) = false by simp [h1]]
  simp only [cond_false]
  by_cases h2 : a.n = b.n
  ·rw [show (a.n != b.n) = false by simp [h2]]
   simp only [cond_false]
   by_cases h3 : a.t = b.t
   ·rw [show (a.t != b.t) = false by simp [h3]]
    simp only [cond_false]
    have := List.lt_irrefl b.t
    simp [h1, h2, h3, this]
   ·rw [show (a.t != b.t) = true by simp [h3]]
    simp only [cond_true]
    obtain ⟨q1, q2⟩ := O8 h3
    rw [q1, q2]
    simp [h1, h2]
  ·rw [show (a.n != b.n) = true by simp [h2]]
   simp only [cond_true]
   obtain ⟨q1, q2⟩ := GU h2
   have iV : ¬ b.n = a.n := fun e => h2 e.symm
   rw [q1, q2]
   simp [h1, h2, iV]
 ·rw [show (a.kind != b.kind) = true by simp [h1]]
  simp only [cond_true]
  obtain ⟨q1, q2⟩ := GU h1
  have iy : ¬ b.kind = a.kind := fun e => h1 e.symm
  rw [q1, q2]
  simp [h1, iy]
theorem Od {a b c : At} (h : fR a b) (k : fR b c) : fR a c := by
 unfold fR at *
 rcases h with h | ⟨h1, h | ⟨h2, h3⟩⟩ <;> rcases k with k | ⟨k1, k | ⟨k2, k3⟩⟩
 ·exact .inl af
 ·exact .inl af
 ·exact .inl af
 ·exact .inl af
 ·exact .inr ⟨af, .inl af⟩
 ·exact .inr ⟨af, .inl af⟩
 ·exact .inl af
 ·exact .inr ⟨af, .inl af⟩
 ·exact .inr ⟨af, .inr ⟨af, List.lt_trans h3 k3⟩⟩
theorem Oe {a b : At} (h : a ≠ b) : fR a b \/ fR b a := by
 unfold fR
 by_cases h1 : a.kind = b.kind
 ·by_cases h2 : a.n = b.n
  ·have h3 : a.t ≠ b.t := fun e => h (by obtain ⟨k, n, t⟩ := a; obtain ⟨k', n', t'⟩ := b; simp_all)
   by_cases h4 : a.t < b.t
   ·exact .inl (.inr ⟨h1, .inr ⟨h2, h4⟩⟩)
   ·exact .inr (.inr ⟨h1.symm, .inr ⟨h2.symm, (FC h3).1 h4⟩⟩)
  ·by_cases h3 : a.n < b.n
   ·exact .inl (.inr ⟨h1, .inl h3⟩)
   ·exact .inr (.inr ⟨h1.symm, .inl af⟩)
 ·by_cases h3 : a.kind < b.kind
  ·exact .inl (.inl h3)
  ·exact .inr (.inl af)
theorem Hb (a : At) (d : aU) : ∀ k, k <= d.length -> ∀ j, datK a d k <= j -> j < k -> fR a (d.getD j ⟨0, 0, []⟩)
 | 0, _, j, h1, h2 => af
 | k + 1, hk, j, h1, h2 => by
  rw [datK] at h1
  by_cases hc : jI (d.getD k ⟨0, 0, []⟩) a > 0
  ·rw [decide_eq_true hc] at h1
   simp only [cond_true] at h1
   by_cases hj : j = k
   ·rw [hj]; exact (Br _ _).2.1 hc
   ·exact Hb a d k af j h1 af
  ·rw [decide_eq_false hc] at h1
   simp only [cond_false] at h1; omega
theorem Hc (a : At) (d : aU) : ∀ k, datK a d k = 0 \/ ¬ fR a (d.getD (datK a d k - 1) ⟨0, 0, []⟩)
 | 0 => .inl rfl
 | k + 1 => by
  rw [datK]
  by_cases hc : jI (d.getD k ⟨0, 0, []⟩) a > 0
  ·rw [decide_eq_true hc]
   exact Hc a d k
  ·rw [decide_eq_false hc]
   refine .inr fun h => hc ((Br _ _).2.2 ?_)
   simpa using h
theorem xY {d : aU} {i : Nat} (h : i < d.length) : d.getD i ⟨0, 0, []⟩ = d[i] := by
 rw [List.getD_eq_getElem?_getD, List.getElem?_eq_getElem h]; rfl
theorem VS {d : aU} {a x : At} : x ∈ dN d a ↔ x = a \/ x ∈ d := by
 unfold dN
 cases hh : cd d a with
 | true =>
  have := Il.1 hh
  simp only [cond_true]
  exact ⟨.inr, fun h => h.elim (fun e => e ▸ this) id⟩
 | false =>
  simp only [cond_false]
  have hs := List.take_append_drop (datK a d d.length) d
  constructor
  ·intro h
   rcases List.mem_append.1 h with h | h
   ·exact .inr (List.mem_of_mem_take h)
   ·rcases List.mem_cons.1 h with h | h
    ·exact .inl h
    ·exact .inr (List.mem_of_mem_drop h)
  ·rintro (rfl | h)
   ·simp
   ·rw [<- hs, List.mem_append] at h
    rcases h with h | h
    ·exact List.mem_append_left _ h
    ·exact List.mem_append_right _ (List.mem_cons_of_mem _ h)
theorem PM {d : aU} {a : At} (h : d.Pairwise fR) : (dN d a).Pairwise fR := by
 unfold dN
 cases hh : cd d a with
 | true => exact h
 | false =>
  simp only [cond_false]
  have hn : a ∉ d := fun hm => by rw [Il.2 hm] at hh; cases hh
  have hk := BJ a d d.length
  have tq := Hb a d d.length (Nat.le_refl _)
  have hle := Hc a d d.length
  generalize datK a d d.length = k at *
  have hs := List.take_append_drop k d
  have hp := h
  rw [<- hs] at hp
  obtain ⟨p1, p2, p3⟩ := List.pairwise_append.1 hp
  have Tc : ∀ x ∈ d.drop k, fR a x := fun x hx => by
   obtain ⟨i, hi, rfl⟩ := List.getElem_of_mem hx
   rw [List.length_drop] at hi
   have := tq (k + i) af af
   rw [xY af] at this
   rw [List.getElem_drop]; exact this
  have RO : ∀ x ∈ d.take k, fR x a := fun x hx => by
   rcases hle with hle | hle
   ·rw [hle] at hx; simp at hx
   ·have yN : 0 < k := by
     rcases Nat.eq_zero_or_pos k with h0 | h0
     ·rw [h0] at hx; simp at hx
     ·exact h0
    have Tl : x ∈ d := List.mem_of_mem_take hx
    have bp : x ≠ a := fun e => hn (e ▸ Tl)
    have hl : d.getD (k - 1) ⟨0, 0, []⟩ ≠ a := fun e => hn (by rw [<- e, xY af]; exact List.getElem_mem _)
    have yQ : fR (d.getD (k - 1) ⟨0, 0, []⟩) a := (Oe hl).resolve_right hle
    obtain ⟨i, hi, rfl⟩ := List.getElem_of_mem hx
    rw [List.length_take] at hi
    rw [List.getElem_take] at *
    by_cases vz : i = k - 1
    ·subst vz; rw [xY af] at yQ; exact yQ
    ·have := (List.pairwise_iff_getElem.1 h) i (k - 1) af af af
     rw [xY af] at yQ
     exact Od this yQ
  refine List.pairwise_append.2 ⟨p1, List.pairwise_cons.2 ⟨Tc, p2⟩, fun x hx y hy => ?_⟩
  rcases List.mem_cons.1 hy with rfl | hy
  ·exact RO x hx
  ·exact p3 x hx y hy
structure b7 (k : Int) (d : aU) : Prop where
 ok : ∀ a ∈ d, fk a = true /\ a.kind = k
 pw : d.Pairwise fR
theorem b7.nil (k : Int) : b7 k [] := ⟨(fun a h => by cases h), .nil⟩
theorem b7.put {k : Int} {d : aU} (h : b7 k d) {a : At} (ha : fk a = true /\ a.kind = k) : b7 k (dN d a) :=
 ⟨fun x hx => (VS.1 hx).elim (fun e => e ▸ ha) (h.ok x), PM h.pw⟩
theorem b7.one {k : Int} {a : At} (ha : fk a = true /\ a.kind = k) : b7 k [a] := ⟨fun x hx => by rw [List.mem_singleton] at hx; rw [hx]; exact ha, by simp⟩
theorem qd {x : Src} {k : Int} {c : Nat} (h : x.OK (c + 3)) (hk : 1 <= k /\ k <= 4) : fk (cS x k).1 = true /\ (cS x k).1.kind = k := by
 unfold cS
 by_cases h1 : k = 1
 ·have := dx (n := 12) h af
  rw [if_pos h1]
  refine ⟨?_, h1.symm⟩
  simp [fk, tJ, bz]; omega
 ·rw [if_neg h1]
  by_cases h2 : k = 2
  ·have hm := (rj (L := qc) h (by simp [qc])).2
   rw [if_pos h2]
   refine ⟨?_, h2.symm⟩
   have hp : ∀ w ∈ qc, pC w = true := by decide
   simp [fk, hp _ hm]
  ·rw [if_neg h2]
   by_cases h3 : k = 3
   ·have := dx (n := 2) h af
    rw [if_pos h3]
    refine ⟨?_, h3.symm⟩
    simp [fk, bz]; omega
   ·have := dx (n := 6) h af
    rw [if_neg h3]
    refine ⟨?_, by show (4 : Int) = k; omega⟩
    simp [fk, lN, bz]; omega
theorem Ht {k : Int} (hk : 1 <= k /\ k <= 4) : ∀ (n : Nat) (x : Src) (d : aU) (c : Nat), x.OK (c + n * 3) -> b7 k d -> b7 k (dtmL k n x d).1
 | 0, x, d, c, h, hd => hd
 | n + 1, x, d, c, h, hd => by
  rw [dtmL]
  exact Ht hk n _ _ c (kK x k (c := c + n * 3) (h.less af)) (hd.put (qd (c := c + n * 3) (h.less af) hk))
theorem x6 {x : Src} {k : Int} {c : Nat} (h : x.OK (c + 15)) (hk : 1 <= k /\ k <= 4) : b7 k (gS x k).1 /\ (gS x k).1.length <= 4 := by
 have h1 := dx (c := c + 12) (n := 5) (h.less af) af
 have h2 := Hs k (aX x 5).1.toNat (aX x 5).2 []
 refine ⟨Ht hk _ _ [] c (h1.1.less af) (.nil k), ?_⟩
 show (dtmL k (aX x 5).1.toNat (aX x 5).2 []).1.length <= 4
 simp only [List.length_nil] at h2
 omega
abbrev nj : Nat := 7
abbrev oD : Nat := 41
abbrev qq : Nat := 229
abbrev sJ : Nat := 228
abbrev lz : Nat := 157
abbrev mm : Nat := 51
abbrev fO : Nat := 44
abbrev xc : Nat := 85
def sy : bt := ⟨[110, 97, 109, 101], 2, 1, 1, 0, 0, [], false⟩
def qg : bt := ⟨[97, 98, 111, 117, 116], 4, 0, 4, 0, 0, [112, 111, 114, 116], false⟩
def GB : bt := ⟨[116, 97, 103], 1, 0, 1, 0, 99, [], false⟩
def GC : bt := ⟨[117, 112], 3, 1, 1, 0, 0, [], false⟩
def Gx : bt := ⟨[99, 111, 117, 110, 116], 1, 1, 1, -1000, 1000, [], false⟩
def BC : bt := ⟨[112, 111, 114, 116, 115], 4, 0, 8, 0, 0, [112, 111, 114, 116], true⟩
def Fu : Tb := ⟨[110, 111, 116, 101], [sy, qg], [], true⟩
def Fv : Tb := ⟨[112, 111, 114, 116], [sy, GB, GC], [0], false⟩
def Fw : Tb := ⟨[115, 119, 105, 116, 99, 104], [sy, Gx, BC], [0], true⟩
def aO : aS := [Fu, Fv, Fw]
noncomputable def nV : Vw := fun t cs i => bif Nat.beq t fO then some (aq ((ae aq cs).getD i Tb.zero)) else bif Nat.beq t xc then some (ba ((ae ba cs).getD i bt.zero)) else rU t cs i
theorem Yx : fnT E0 0 nj [] [] = (
 .done (aj.mk (.agg [.dsl 3 false [.str [110, 111, 116, 101], .dsl 2 false [.str [110, 97, 109, 101], aa 2, aa 1, aa 1, aa 0, aa 0, .str [], .bool false, .str [97, 98, 111, 117, 116], aa 4, aa 0, aa 4, aa 0, aa 0, .str [112,
  111, 114, 116], .bool false], .dsl 0 false [], .bool true, .str [112, 111, 114, 116], .dsl 3 false [.str [110, 97, 109, 101], aa 2, aa 1, aa 1, aa 0, aa 0, .str [], .bool false, .str [116, 97, 103], aa 1, aa 0, aa 1, aa 0, aa
  99, .str [], .bool false, .str [117, 112], aa 3, aa 1, aa 1, aa 0, aa 0, .str [], .bool false], .dsl 1 false [aa 0], .bool false, .str [115, 119, 105, 116, 99, 104], .dsl 3 false [.str [110, 97, 109, 101], aa 2, aa 1, aa 1,
  aa 0, aa 0, .str [], .bool false, .str [99, 111, 117, 110, 116], aa 1, aa 1, aa 1, aa (-1000 : Int), aa 1000, .str [], .bool false, .str [112, 111, 114, 116, 115], aa 4, aa 0, aa 8, aa 0, aa 0, .str [112, 111, 114, 116],
  .bool true], .dsl 1 false [aa 0], .bool true]]) [] []) : T _) := (T.force_eq _).symm.trans (by kernel_rfl)
noncomputable def tU (S : aS) : cP := fun f vs hp => match vs, hp with
 | [], [] => bif Nat.beq f nj then some ⟨(), fun _ => ⟨.agg [ab aq S], [], []⟩⟩ else none
 | [.int _ n, .int _ lo, .int _ hi], [] => bif Nat.beq f mm then some ⟨decide (lo <= n) && decide (n <= hi), fun y => ⟨.bool y, [], []⟩⟩ else none
 | [.ptr 0 0, .int _ n], [some ([.dsl _ _ cs, .int _ k, .int _ s], _)] => bif Nat.beq f kh then some ⟨aX (bc cs k s) n, fun y => ⟨.int .i64 y.1, [au y.2], [0]⟩⟩
  else bif Nat.beq f ya then some ⟨cS (bc cs k s) n, fun y => ⟨.agg (ak y.1), [au y.2], [0]⟩⟩
  else bif Nat.beq f sO then some ⟨gS (bc cs k s) n, fun y => ⟨ab ak y.1, [au y.2], [0]⟩⟩
  else bif Nat.beq f uW then some ⟨bo (bc cs k s) n, fun y => ⟨.bool y.1, [au y.2], [0]⟩⟩ else none
 | _, _ => none
noncomputable def AK (S : aS) (v : Int) : Env := { P := Tryz.prog, vw := nV, res := tU S, vs := [(3, 4, .int .i64 v), (5, 6, .int .i64 v)] }
theorem GW (S : aS) (x : Src) (v : Int) (t : Int) : fnT (AK S v) 0 oD [.ptr 0 0, .int .i64 t] [au x] = (
 let q2 := List.getD (ae aq (ah aq S)) t.toNat (Tb.mk [] [] [] false);
 let q9 := ah ba q2.aw;
 let q := ae ba q9;
 let q1 := bt.mk [] (0 : Int) (0 : Int) (0 : Int) (0 : Int) (0 : Int) [] false;
 let q3 : List V := [aa v, aa 3, aa 6];
 let q4 := decide (3 <= v) && decide (v <= 6);
 let q5 := (↑q2.aw.length : Int);
 let q6 := ([aa 1, aa 2, aa 7, aa 8] : List V);
 let q7 : List V := [.ptr 0 0, aa 4];
 let q8 : List V := [.ptr 0 0, aa 2]; .bind PUnit.unit fun _ => .ag [ao Tryz.prog 7 [] [] (aj.mk (.agg [ab aq S]) [] [])] (.ag [0 <= t /\ t < (↑S.length : Int), List.take 4 (List.drop (t.toNat * 4) (ah aq S)) = (aq q2)]
  (.bind (bo (bc (ah aR x.l) (↑x.k : Int) x.s) (8 : Int)) fun y1 =>
 let br := bc (ah aR y1.2.l) (↑y1.2.k : Int) y1.2.s; .ag [ao Tryz.prog 105 [.ptr 0 0, aa 8] [au x] (aj.mk (.bool y1.1) [au y1.2] [0])] (bif y1.1 then .bind (aX br (4 : Int)) fun y2 => .ag [ao Tryz.prog 103 q7
  [au y1.2] (aj.mk (aa y2.1) [au y2.2] [0])] (.ag [0 <= y2.1 /\ y2.1 < 4] (.ag [q6[0 + y2.1.toNat * 1]? = some (aa v)] (.bind (cS (bc (ah aR y2.2.l) (↑y2.2.k : Int) y2.2.s) (4 : Int)) fun y3 => .ag [ao Tryz.prog
  106 q7 [au y2.2] (aj.mk (.agg (ak y3.1)) [au y3.2] [0])] (.done (aj.mk (.agg [.str [95, 117, 117, 105, 100], aa v, .dsl 1 false (ak y3.1)]) [au y3.2] [0]))))) else .bind (aX br q5) fun y4 =>
 let bD := List.getD q y4.1.toNat q1;
 let cU := bD.kind;
 let bL : List V := [.ptr 0 0, aa cU];
 let ca := bD.name; .ag [ao Tryz.prog 103 [.ptr 0 0, aa q5] [au y1.2] (aj.mk (aa y4.1) [au y4.2] [0])] (.ag [0 <= y4.1 /\ y4.1 < q5, List.take 8 (List.drop (y4.1.toNat * 8) q9) = [.str ca, aa cU, aa bD.min, aa bD.max,
  aa bD.low, aa bD.high, .str bD.ref, .bool bD.eR]] (.bind (aX (bc (ah aR y4.2.l) (↑y4.2.k : Int) y4.2.s) (4 : Int)) fun y5 => .ag [ao Tryz.prog 103 q7 [au y4.2] (aj.mk (aa y5.1) [au y5.2] [0])] (.ag [0
  <= y5.1 /\ y5.1 < 4] (.ag [q6[0 + y5.1.toNat * 1]? = some (aa v)] (.bind (gS (bc (ah aR y5.2.l) (↑y5.2.k : Int) y5.2.s) cU) fun y6 =>
 let eC : V := .agg [.str ca, aa v, ab ak y6.1];
 let fA := bo (bc (ah aR y6.2.l) (↑y6.2.k : Int) y6.2.s) (2 : Int);
 let fB := (↑y6.1.length : Int); .ag [ao Tryz.prog 107 bL [au y5.2] (aj.mk (ab ak y6.1) [au y6.2] [0])] (bif bD.kind == 1 then .bind fA fun y7 =>
 let jZ := bc (ah aR y7.2.l) (↑y7.2.k : Int) y7.2.s; .ag [ao Tryz.prog 105 q8 [au y6.2] (aj.mk (.bool y7.1) [au y7.2] [0])] (bif y7.1 then .bind (aX jZ (4 : Int)) fun y8 =>
 let j0 := (3 : Int) + y8.1;
 let jy := IntKind.i64.wrap j0;
 let fC := decide (3 <= IntKind.i64.wrap j0) && decide (IntKind.i64.wrap j0 <= 6);
 let jz : V := .agg [.str ca, aa jy, ab ak y6.1];
 let kz : List V := [aa jy, aa 3, aa 6]; .ag [ao Tryz.prog 103 q7 [au y7.2] (aj.mk (aa y8.1) [au y8.2] [0])] (.bind (bo (bc (ah aR y8.2.l) (↑y8.2.k : Int) y8.2.s) (2 : Int)) fun y9 =>
 let lV := cS (bc (ah aR y9.2.l) (↑y9.2.k : Int) y9.2.s) cU; .ag [ao Tryz.prog 105 q8 [au y8.2] (aj.mk (.bool y9.1) [au y9.2] [0])] (bif y9.1 then .bind lV fun cx =>
 let pE := aj.mk (.agg [.str ca, aa jy, .dsl 1 false (ak cx.1)]) [au cx.2] [0]; .ag [ao Tryz.prog 106 bL [au y9.2] (aj.mk (.agg (ak cx.1)) [au cx.2] [0])] (.bind fC fun cj => .ag [ao Tryz.prog 51 kz []
  (aj.mk (.bool cj) [] [])] (bif cj then .done pE else .done pE)) else .bind fC fun dk => .ag [ao Tryz.prog 51 kz [] (aj.mk (.bool dk) [] [])] (bif dk then bif fB != 1 then .bind lV fun eE => .ag [ao Tryz.prog 106
  bL [au y9.2] (aj.mk (.agg (ak eE.1)) [au eE.2] [0])] (.done (aj.mk (.agg [.str ca, aa jy, .dsl 1 false (ak eE.1)]) [au eE.2] [0])) else .done (aj.mk jz [au y9.2] [0]) else .done (aj.mk jz [au y9.2] [0]))))
  else .bind (bo jZ (2 : Int)) fun dz =>
 let nP := cS (bc (ah aR dz.2.l) (↑dz.2.k : Int) dz.2.s) cU;
 let mN := aj.mk eC [au dz.2] [0]; .ag [ao Tryz.prog 105 q8 [au y7.2] (aj.mk (.bool dz.1) [au dz.2] [0])] (bif dz.1 then .bind nP fun gA =>
 let mO := aj.mk (.agg [.str ca, aa v, .dsl 1 false (ak gA.1)]) [au gA.2] [0]; .ag [ao Tryz.prog 106 bL [au dz.2] (aj.mk (.agg (ak gA.1)) [au gA.2] [0])] (.bind q4 fun NH => .ag [ao Tryz.prog 51 q3 []
  (aj.mk (.bool NH) [] [])] (bif NH then .done mO else .done mO)) else .bind q4 fun NI => .ag [ao Tryz.prog 51 q3 [] (aj.mk (.bool NI) [] [])] (bif NI then bif fB != 1 then .bind nP fun AF => .ag [ao Tryz.prog 106 bL
  [au dz.2] (aj.mk (.agg (ak AF.1)) [au AF.2] [0])] (.done (aj.mk (.agg [.str ca, aa v, .dsl 1 false (ak AF.1)]) [au AF.2] [0])) else .done mN else .done mN))) else .bind fA fun nX =>
 let nQ := cS (bc (ah aR nX.2.l) (↑nX.2.k : Int) nX.2.s) cU;
 let lW := aj.mk eC [au nX.2] [0]; .ag [ao Tryz.prog 105 q8 [au y6.2] (aj.mk (.bool nX.1) [au nX.2] [0])] (bif nX.1 then .bind nQ fun AG =>
 let mP := aj.mk (.agg [.str ca, aa v, .dsl 1 false (ak AG.1)]) [au AG.2] [0]; .ag [ao Tryz.prog 106 bL [au nX.2] (aj.mk (.agg (ak AG.1)) [au AG.2] [0])] (.bind q4 fun NJ => .ag [ao Tryz.prog 51 q3 []
  (aj.mk (.bool NJ) [] [])] (bif NJ then .done mP else .done mP)) else .bind q4 fun NK => .ag [ao Tryz.prog 51 q3 [] (aj.mk (.bool NK) [] [])] (bif NK then bif fB != 1 then .bind nQ fun AH => .ag [ao Tryz.prog 106 bL
  [au nX.2] (aj.mk (.agg (ak AH.1)) [au AH.2] [0])] (.done (aj.mk (.agg [.str ca, aa v, .dsl 1 false (ak AH.1)]) [au AH.2] [0])) else .done lW else .done lW))))))))))) : T _) := (T.force_eq _).symm.trans (by kernel_rfl)
theorem TS (n lo hi : Int) : fnT E0 0 mm [.int .i64 n, .int .i64 lo, .int .i64 hi] [] = (
 bif decide (lo <= n) then .done (aj.mk (.bool (decide (n <= hi))) [] []) else .done (aj.mk (.bool false) [] []) : T _) := by kernel_rfl
theorem ki {E : Env} (hm : E.P.follows .mixedOrders = true) (hn : dA E.P) {mode : Nat} {f : FuncId} {vs : List V} {hp : Hp} {t : T aj} {Q : aj -> Prop} (e : fnT E mode f vs hp = t) (h : t.WP Q) : ∃ r, ao E.P f vs hp r /\ Q r := by
 subst e
 exact Cu hm hn h
theorem rl : ao Tryz.prog nj [] [] ⟨.agg [ab aq aO], [], []⟩ := by
 refine bh (E := E0) follows named Yx (by simp) ?_
 exact aQ
structure og (tb : Tb) : Prop where
 ne : 1 <= tb.aw.length
 le : tb.aw.length <= 1000
 kd : ∀ c ∈ tb.aw, 1 <= c.kind /\ c.kind <= 4
def ld : List UInt8 := [95, 117, 117, 105, 100]
structure gO (tb : Tb) (q : a6) : Prop where
 fn : 1 <= q.func /\ q.func <= 8
 len : q.val.length <= 8
 aG : (q.aG = ld /\ b7 4 q.val /\ q.val.length = 1 /\ ¬ (3 <= q.func /\ q.func <= 6)) \/ ∃ c ∈ tb.aw, q.aG = c.name /\ b7 c.kind q.val /\ (3 <= q.func /\ q.func <= 6 -> c.kind = 1 /\ q.val.length = 1)
theorem ja (n lo hi : Int) : ao Tryz.prog mm [.int .i64 n, .int .i64 lo, .int .i64 hi] [] ⟨.bool (decide (lo <= n) && decide (n <= hi)), [], []⟩ := by
 refine bh (E := E0) follows named (TS n lo hi) (by simp) ?_
 simp only [az, T.WP, aB, aC]
 refine ⟨fun h => ?_, fun h => ?_⟩
 ·rw [decide_eq_true h]; exact aQ
 ·rw [decide_eq_false h]; exact aQ
theorem gf {x : Src} {c : Nat} {n : Int} (h : x.OK (c + 3)) (hn : 1 <= n) : (bo x n).2.OK c := (dx h hn).1
theorem JH (n : Int) (h : 0 <= n /\ n < 4) : ([V.int .i64 1, .int .i64 2, .int .i64 7, .int .i64 8] : List V)[0 + n.toNat * 1]? = some (.int .i64 ([1, 2, 7, 8].getD n.toNat 0)) /\ ¬ (3 <= ([1, 2, 7, 8] : List Int).getD n.toNat 0 /\ ([1, 2, 7, 8] : List Int).getD n.toNat 0 <= 6) /\ 1 <= ([1, 2, 7, 8] : List Int).getD n.toNat 0 /\ ([1, 2, 7, 8] : List Int).getD n.toNat 0 <= 8 := by
 have : n = 0 \/ n = 1 \/ n = 2 \/ n = 3 := af
 rcases this with rfl | rfl | rfl | rfl <;> exact ⟨rfl, by decide, by decide, by decide⟩
theorem Au (S : aS) (t : Int) (ht : 0 <= t /\ t < S.length) : ((ah aq S).drop (t.toNat * 4)).take 4 = aq (S.getD t.toNat ⟨[], [], [], false⟩) := bJ.at' S ⟨[], [], [], false⟩ t 4 ht rfl
theorem qj (C : List bt) (n : Int) (h : 0 <= n /\ n < C.length) : ((ah ba C).drop (n.toNat * 8)).take 8 = ba (C.getD n.toNat ⟨[], 0, 0, 0, 0, 0, [], false⟩) /\ C.getD n.toNat ⟨[], 0, 0, 0, 0, 0, [], false⟩ ∈ C := by
 refine ⟨cR.at' C ⟨[], 0, 0, 0, 0, 0, [], false⟩ n 8 h rfl, ?_⟩
 rw [List.getD_eq_getElem?_getD, List.getElem?_eq_getElem af]
 exact List.getElem_mem _
def NS (tb : Tb) (c : Nat) (r : aj) : Prop := ∃ q x', r = ⟨.agg (aH q), [au x'], [0]⟩ /\ gO tb q /\ x'.OK c
theorem Pd {S : aS} (hS : ao Tryz.prog nj [] [] ⟨.agg [ab aq S], [], []⟩) (x : Src) (t : Int) (ht : 0 <= t /\ t < S.length) (hT : og (S.getD t.toNat ⟨[], [], [], false⟩)) {c : Nat} (h : x.OK (c + 40)) :
  ∃ q x', ao Tryz.prog oD [.ptr 0 0, .int .i64 t] [au x] ⟨.agg (aH q), [au x'], [0]⟩ /\ gO (S.getD t.toNat ⟨[], [], [], false⟩) q /\ x'.OK c := by
 have aL := Au S t ht
 suffices hh : ∃ r, ao Tryz.prog oD [.ptr 0 0, .int .i64 t] [au x] r /\ NS (S.getD t.toNat ⟨[], [], [], false⟩) c r by
  obtain ⟨r, h1, q, x', rfl, h2, h3⟩ := hh
  exact ⟨q, x', h1, h2, h3⟩
 have o1 : (bo x 8).2.OK (c + 37) := gf (c := c + 37) (h.less (by omega)) (by omega)
 by_cases hc : (bo x 8).1 = true
 ·have o2 := dx (c := c + 34) (n := 4) (o1.less (by omega)) (by omega)
  obtain ⟨l1, l2, l3, l4⟩ := JH _ o2.2
  refine ki (E := AK S _) follows named (GW S x (([1, 2, 7, 8] : List Int).getD (aX (bo x 8).2 4).1.toNat 0) t) ?_
  simp only [az, T.WP, All, aA, aD, aE, aF, dF, bJ.ae, cR.ae]
  rintro y -
  refine ⟨hS, ⟨⟨ht.1, ht.2⟩, aL⟩, ?_⟩
  rintro y rfl
  refine ⟨iS (c := c + 37) _ _ (h.less (by omega)) (by omega), fun _ => ?_, (fun h => by rw [hc] at h; cases h)⟩
  rintro y rfl
  refine ⟨fc (c := c + 34) _ _ (o1.less (by omega)), ⟨o2.2.1, o2.2.2⟩, l1, ?_⟩
  rintro y rfl
  have ha := qd (x := (aX (bo x 8).2 4).2) (k := 4) (c := c + 31) (o2.1.less (by omega)) (by omega)
  have RE := kK (aX (bo x 8).2 4).2 4 (c := c + 31) (o2.1.less (by omega))
  exact ⟨qe (c := c + 31) _ _ (o2.1.less (by omega)), ⟨ld, _, [_]⟩, _, rfl, ⟨⟨l3, l4⟩, by simp, .inl ⟨rfl, .one ha, rfl, l2⟩⟩, RE.less (by omega)⟩
 ·have hc : (bo x 8).1 = false := by simpa using hc
  generalize Dq : S.getD t.toNat ⟨[], [], [], false⟩ = tb at *
  have o4 := dx (c := c + 34) (n := (tb.aw.length : Int)) (o1.less (by omega)) (by have := hT.ne; omega)
  obtain ⟨bS, cB⟩ := qj tb.aw _ o4.2
  have jQ := hT.kd _ cB
  have o5 := dx (c := c + 31) (n := 4) (o4.1.less (by omega)) (by omega)
  obtain ⟨l1, l2, l3, l4⟩ := JH _ o5.2
  refine ki (E := AK S _) follows named (GW S x (([1, 2, 7, 8] : List Int).getD (aX (aX (bo x 8).2 (tb.aw.length : Int)).2 4).1.toNat 0) t) ?_
  simp only [az, T.WP, All, aA, aD, aE, aF, dF, bJ.ae, cR.ae, Dq]
  generalize gl : tb.aw.getD (aX (bo x 8).2 (tb.aw.length : Int)).1.toNat ⟨[], 0, 0, 0, 0, 0, [], false⟩ = aG at *
  generalize hv : ([1, 2, 7, 8] : List Int).getD (aX (aX (bo x 8).2 (tb.aw.length : Int)).2 4).1.toNat 0 = v at *
  have o6 := uS (aX (aX (bo x 8).2 (tb.aw.length : Int)).2 4).2 aG.kind (c := c + 16) (o5.1.less (by omega))
  have d6 := x6 (x := (aX (aX (bo x 8).2 (tb.aw.length : Int)).2 4).2) (k := aG.kind) (c := c + 16) (o5.1.less (by omega)) jQ
  rintro y -
  refine ⟨hS, ⟨⟨ht.1, ht.2⟩, aL⟩, ?_⟩
  rintro y rfl
  refine ⟨iS (c := c + 37) _ _ (h.less (by omega)) (by omega), (fun h => by rw [hc] at h; cases h), fun _ => ?_⟩
  rintro y rfl
  simp only [gl]
  refine ⟨fc (c := c + 34) _ _ (o1.less (by omega)), ⟨⟨o4.2.1, o4.2.2⟩, bS⟩, ?_⟩
  rintro y rfl
  refine ⟨fc (c := c + 31) _ _ (o4.1.less (by omega)), ⟨o5.2.1, o5.2.2⟩, l1, ?_⟩
  rintro y rfl
  generalize SY : gS (aX (aX (bo x 8).2 (tb.aw.length : Int)).2 4).2 aG.kind = y6 at *
  refine ⟨by rw [<- SY]; exact x7 (c := c + 16) _ _ (o5.1.less (by omega)), fun hk => ?_, fun hk => ?_⟩
  ·have o7 := gf (x := y6.2) (n := 2) (c := c + 13) (o6.less (by omega)) (by omega)
   rintro y rfl
   refine ⟨iS (c := c + 13) _ _ (o6.less (by omega)) (by omega), fun h7 => ?_, fun h7 => ?_⟩
   ·have o8 := dx (x := (bo y6.2 2).2) (c := c + 10) (n := 4) (o7.less (by omega)) (by omega)
    have o9 := gf (x := (aX (bo y6.2 2).2 4).2) (n := 2) (c := c + 7) (o8.1.less (by omega)) (by omega)
    have w3 : IntKind.i64.wrap (3 + (aX (bo y6.2 2).2 4).1) = 3 + (aX (bo y6.2 2).2 4).1 := cQ (by omega)
    rintro y rfl
    simp only [w3]
    refine ⟨fc (c := c + 10) _ _ (o7.less (by omega)), ?_⟩
    rintro y rfl
    refine ⟨iS (c := c + 7) _ _ (o8.1.less (by omega)) (by omega), fun h9 => ?_, fun h9 => ?_⟩
    ·rintro y rfl
     have Bk := qd (x := (bo (aX (bo y6.2 2).2 4).2 2).2) (k := aG.kind) (c := c + 4) (o9.less (by omega)) jQ
     have BB := kK (bo (aX (bo y6.2 2).2 4).2 2).2 aG.kind (c := c + 4) (o9.less (by omega))
     refine ⟨qe (c := c + 4) _ _ (o9.less (by omega)), ?_⟩
     rintro y rfl
     refine ⟨ja _ _ _, fun _ => ?_, fun _ => ?_⟩
     all_goals exact ⟨⟨aG.name, 3 + (aX (bo y6.2 2).2 4).1, [_]⟩, _, rfl, ⟨by show 1 <= 3 + (aX (bo y6.2 2).2 4).1 /\ 3 + (aX (bo y6.2 2).2 4).1 <= 8; omega, by simp, .inr ⟨aG, cB, rfl, .one Bk, fun _ => ⟨hk, rfl⟩⟩⟩, BB.less (by omega)⟩
    ·rintro y rfl
     refine ⟨ja _ _ _, fun _ => ⟨fun bp => ?_, fun heq => ?_⟩, fun gG => ?_⟩
     ·rintro y rfl
      have Bk := qd (x := (bo (aX (bo y6.2 2).2 4).2 2).2) (k := aG.kind) (c := c + 4) (o9.less (by omega)) jQ
      have BB := kK (bo (aX (bo y6.2 2).2 4).2 2).2 aG.kind (c := c + 4) (o9.less (by omega))
      refine ⟨qe (c := c + 4) _ _ (o9.less (by omega)), ?_⟩
      exact ⟨⟨aG.name, 3 + (aX (bo y6.2 2).2 4).1, [_]⟩, _, rfl, ⟨by show 1 <= 3 + (aX (bo y6.2 2).2 4).1 /\ 3 + (aX (bo y6.2 2).2 4).1 <= 8; omega, by simp, .inr ⟨aG, cB, rfl, .one Bk, fun _ => ⟨hk, rfl⟩⟩⟩, BB.less (by omega)⟩
     ·have fX : y6.1.length = 1 := by simp at heq; omega
      exact ⟨⟨aG.name, 3 + (aX (bo y6.2 2).2 4).1, y6.1⟩, _, rfl, ⟨by show 1 <= 3 + (aX (bo y6.2 2).2 4).1 /\ 3 + (aX (bo y6.2 2).2 4).1 <= 8; omega, by show y6.1.length <= 8; omega, .inr ⟨aG, cB, rfl, d6.1, fun _ => ⟨hk, fX⟩⟩⟩, o9.less (by omega)⟩
     ·exfalso
      rw [decide_eq_true (show (3 : Int) <= 3 + (aX (bo y6.2 2).2 4).1 by omega), decide_eq_true (show 3 + (aX (bo y6.2 2).2 4).1 <= (6 : Int) by omega)] at gG
      cases gG
   ·have vV := gf (x := (bo y6.2 2).2) (n := 2) (c := c + 10) (o7.less (by omega)) (by omega)
    rintro y rfl
    exact ⟨iS (c := c + 10) _ _ (o7.less (by omega)) (by omega), (fun CF => by
   rintro y rfl
   have Bl := qd (x := (bo (bo y6.2 2).2 2).2) (k := aG.kind) (c := c + 7) (vV.less (by omega)) jQ
   have uN := kK (bo (bo y6.2 2).2 2).2 aG.kind (c := c + 7) (vV.less (by omega))
   refine ⟨qe (c := c + 7) _ _ (vV.less (by omega)), ?_⟩
   rintro y rfl
   refine ⟨ja _ _ _, fun _ => ?_, fun _ => ?_⟩
   all_goals exact ⟨⟨aG.name, v, [_]⟩, _, rfl, ⟨⟨l3, l4⟩, by simp, .inr ⟨aG, cB, rfl, .one Bl, fun h => absurd h l2⟩⟩, uN.less (by omega)⟩), (fun CF => by
   rintro y rfl
   have uN := kK (bo (bo y6.2 2).2 2).2 aG.kind (c := c + 7) (vV.less (by omega))
   refine ⟨ja _ _ _, fun cL => ?_, fun _ => ?_⟩
   ·rw [Bool.and_eq_true, decide_eq_true_eq, decide_eq_true_eq] at cL
    exact absurd cL l2
   ·exact ⟨⟨aG.name, v, y6.1⟩, _, rfl, ⟨⟨l3, l4⟩, by show y6.1.length <= 8; omega, .inr ⟨aG, cB, rfl, d6.1, fun h => absurd h l2⟩⟩, vV.less (by omega)⟩)⟩
  ·have vW := gf (x := y6.2) (n := 2) (c := c + 13) (o6.less (by omega)) (by omega)
   rintro y rfl
   exact ⟨iS (c := c + 13) _ _ (o6.less (by omega)) (by omega), (fun CF => by
   rintro y rfl
   have Bl := qd (x := (bo y6.2 2).2) (k := aG.kind) (c := c + 7) (vW.less (by omega)) jQ
   have uN := kK (bo y6.2 2).2 aG.kind (c := c + 7) (vW.less (by omega))
   refine ⟨qe (c := c + 7) _ _ (vW.less (by omega)), ?_⟩
   rintro y rfl
   refine ⟨ja _ _ _, fun _ => ?_, fun _ => ?_⟩
   all_goals exact ⟨⟨aG.name, v, [_]⟩, _, rfl, ⟨⟨l3, l4⟩, by simp, .inr ⟨aG, cB, rfl, .one Bl, fun h => absurd h l2⟩⟩, uN.less (by omega)⟩), (fun CF => by
   rintro y rfl
   have uN := kK (bo y6.2 2).2 aG.kind (c := c + 7) (vW.less (by omega))
   refine ⟨ja _ _ _, fun cL => ?_, fun _ => ?_⟩
   ·rw [Bool.and_eq_true, decide_eq_true_eq, decide_eq_true_eq] at cL
    exact absurd cL l2
   ·exact ⟨⟨aG.name, v, y6.1⟩, _, rfl, ⟨⟨l3, l4⟩, by show y6.1.length <= 8; omega, .inr ⟨aG, cB, rfl, d6.1, fun h => absurd h l2⟩⟩, vW.less (by omega)⟩)⟩
theorem BV {α : Type} [Inhabited α] {q : Nat} {R : Src -> α -> Src -> Prop} (h : ∀ (c : Nat) (x : Src), x.OK (c + q) -> ∃ a x', R x a x' /\ x'.OK c) :
  ∃ g : Src -> α × Src, ∀ (c : Nat) (x : Src), x.OK (c + q) -> R x (g x).1 (g x).2 /\ (g x).2.OK c := by
 have key : ∀ x : Src, ∃ p : α × Src, ∀ c, x.OK (c + q) -> R x p.1 p.2 /\ p.2.OK c := by
  intro x
  by_cases hx : ∃ c, x.OK (c + q)
  ·obtain ⟨c0, h0⟩ := hx
   have hm : x.OK ((1099511627776 - x.k - q) + q) := ⟨h0.hl, by have := h0.hk; omega, h0.h0, h0.h1⟩
   obtain ⟨a, x', h1, h2⟩ := h _ x hm
   exact ⟨(a, x'), fun c hc => ⟨h1, h2.less (by have := hc.hk; omega)⟩⟩
  ·exact ⟨(default, x), fun c hc => absurd ⟨c, hc⟩ hx⟩
 exact ⟨fun x => Classical.choose (key x), fun c x => Classical.choose_spec (key x) c⟩
theorem ag5 : og Fu := ⟨by decide, by decide, by decide⟩
theorem ag6 : og Fv := ⟨by decide, by decide, by decide⟩
theorem ag7 : og Fw := ⟨by decide, by decide, by decide⟩
abbrev de (t : Int) : Tb := aO.getD t.toNat ⟨[], [], [], false⟩
theorem As {t : Int} (ht : 0 <= t /\ t < 3) : og (de t) := by
 have : t = 0 \/ t = 1 \/ t = 2 := af
 rcases this with rfl | rfl | rfl
 ·exact ag5
 ·exact ag6
 ·exact ag7
instance : Inhabited a6 := ⟨.zero⟩
theorem GX {t : Int} (ht : 0 <= t /\ t < 3) : ∃ g : Src -> a6 × Src, ∀ (c : Nat) (x : Src), x.OK (c + 40) ->
  (ao Tryz.prog oD [.ptr 0 0, .int .i64 t] [au x] ⟨.agg (aH (g x).1), [au (g x).2], [0]⟩ /\ gO (de t) (g x).1) /\ (g x).2.OK c :=
 BV (R := fun x q x' => ao Tryz.prog oD [.ptr 0 0, .int .i64 t] [au x] ⟨.agg (aH q), [au x'], [0]⟩ /\ gO (de t) q) fun c x hx => by
  obtain ⟨q, x', h1, h2, h3⟩ := Pd rl x t ht (As ht) hx
  exact ⟨q, x', ⟨h1, h2⟩, h3⟩
noncomputable def fS (x : Src) (t : Int) : a6 × Src := if h : 0 <= t /\ t < 3 then Classical.choose (GX h) x else (default, x)
theorem BG {x : Src} {t : Int} (ht : 0 <= t /\ t < 3) {c : Nat} (h : x.OK (c + 40)) :
  ao Tryz.prog oD [.ptr 0 0, .int .i64 t] [au x] ⟨.agg (aH (fS x t).1), [au (fS x t).2], [0]⟩ /\ gO (de t) (fS x t).1 /\ (fS x t).2.OK c := by
 have := Classical.choose_spec (GX ht) c x h
 unfold fS
 rw [dif_pos ht]
 exact ⟨this.1.1, this.1.2, this.2⟩
noncomputable def cndsL (t : Int) : Nat -> Src -> List a6 -> List a6 × Src
 | 0, x, l => (l, x)
 | n + 1, x, l => cndsL t n (fS x t).2 (l ++ [(fS x t).1])
noncomputable def fw (x : Src) (t : Int) : List a6 × Src := cndsL t (aX x 3).1.toNat (aX x 3).2 []
theorem GZ {t : Int} (ht : 0 <= t /\ t < 3) : ∀ (n : Nat) (x : Src) (l : List a6) (c : Nat), x.OK (c + n * 40) -> (∀ q ∈ l, gO (de t) q) ->
  (∀ q ∈ (cndsL t n x l).1, gO (de t) q) /\ (cndsL t n x l).1.length = l.length + n /\ (cndsL t n x l).2.OK c
 | 0, x, l, c, h, hl => ⟨hl, rfl, h.less af⟩
 | n + 1, x, l, c, h, hl => by
  have h1 := BG ht (x := x) (c := c + n * 40) (h.less af)
  have ih := GZ ht n (fS x t).2 (l ++ [(fS x t).1]) c h1.2.2 (by
   intro q hq
   rcases List.mem_append.1 hq with hq | hq
   ·exact hl q hq
   ·rw [List.mem_singleton.1 hq]; exact h1.2.1)
  rw [cndsL]
  exact ⟨ih.1, by rw [ih.2.1, List.length_append, List.length_singleton]; omega, ih.2.2⟩
noncomputable def LU : cP := fun f vs hp => match vs, hp with
 | [.ptr 0 0, .int _ n], [some ([.dsl _ _ cs, .int _ k, .int _ s], _)] => bif Nat.beq f kh then some ⟨aX (bc cs k s) n, fun y => ⟨.int .i64 y.1, [au y.2], [0]⟩⟩
  else bif Nat.beq f oD then some ⟨fS (bc cs k s) n, fun y => ⟨.agg (aH y.1), [au y.2], [0]⟩⟩ else none
 | _, _ => none
abbrev Fs : Nat := 34
noncomputable def xm : Env := { P := Tryz.prog, vw := nV, res := LU }
def ub (x : Src) (t : Int) (l : List a6) (i : Int) : St := ⟨ai 21 [(0, .ptr 0 0), (1, .int .i64 t), (5, .sl 1 0 l.length false), (6, .int .i64 i)], [au x, some ([.aJ (ah aH l)], Fs)], [0]⟩
def Wq : Ex -> Kp := fun _ => { keep := [0, 1, 5, 6], wr := [0] }
theorem GY (x : Src) (t : Int) (l : List a6) (i : Int) : bx xm 1 Wq (lp Tryz.prog sJ 0) (ub x t l i) = (
 let q := (↑x.k : Int); bif decide (i > 0) then .bind (fS (bc (ah aR x.l) q x.s) t) fun y0 => .ag [ao (Env.P xm) 41 [.ptr 0 0, aa t] [some ([ab aR x.l, aa q, aa x.s], 138)] (aj.mk (.agg (aH y0.1)) [some
  ([ab aR y0.2.l, aa (↑y0.2.k : Int), aa y0.2.s], 138)] [0])] (.ag [0 = 0, List.length (ah aH l) = l.length * 3, l.length + 1 <= 9223372036854775807, (l.length + 1) * 48 <= 140737488355328] (.done (Ex.normal, St.mk (ai 21
  [(0, .ptr 0 0), (1, aa t), (5, .sl 1 0 (l.length + 1) false), (6, aa (IntKind.i64.wrap (i - 1)))]) [some ([ab aR y0.2.l, aa (↑y0.2.k : Int), aa y0.2.s], 138), some ([.aJ (ah aH l ++ (aH y0.1))], 34)] [0]))) else
  .done (Ex.exit 0, St.mk (ai 21 [(0, .ptr 0 0), (1, aa t), (5, .sl 1 0 l.length false), (6, aa i)]) [some ([ab aR x.l, aa q, aa x.s], 138), some ([.aJ (ah aH l)], 34)] [0]) : T _) := by kernel_rfl
theorem G0 {t : Int} (ht : 0 <= t /\ t < 3) : ∀ (n : Nat) (x : Src) (l : List a6) (c : Nat), x.OK (c + n * 40) -> l.length + n <= 1000000 ->
  a8 Tryz.prog 1 (lp Tryz.prog sJ 0) (ub x t l n) (.exit 0) (ub (cndsL t n x l).2 t (cndsL t n x l).1 0)
 | 0, x, l, c, h, hl => by
  refine bl (E := xm) follows named (GY x t l ((0 : Nat) : Int)) ?_
  simp only [az, T.WP, All, aB, aC, aA]
  exact ⟨fun h => af, fun _ => ⟨rfl, rfl⟩⟩
 | n + 1, x, l, c, h, hl => by
  have h1 := BG ht (x := x) (c := c + n * 40) (h.less af)
  have ih := G0 ht n (fS x t).2 (l ++ [(fS x t).1]) c h1.2.2 (by simp only [List.length_append, List.length_singleton]; omega)
  have w1 : IntKind.i64.wrap (((n + 1 : Nat) : Int) - 1) = (n : Nat) := by rw [cQ af]; omega
  refine bl (E := xm) follows named (GY x t l ((n + 1 : Nat) : Int)) ?_
  simp only [az, T.WP, All, aB, aC, aA, w1, dF]
  refine ⟨fun _ => ?_, fun h => af⟩
  rintro y rfl
  refine ⟨h1.1, ⟨bn, by rw [cg.length], af, af⟩, ?_⟩
  simp only [ub, dU, aH, ab, List.length_append, List.length_singleton] at ih ⊢
  exact ih
noncomputable def UA : Nat -> St -> Option bT := fun id s => match id, s.tm.get 1, s.tm.get 6, s.hp with
 | 0, .int _ t, .int _ i, some ([.dsl _ _ cs, .int _ a, .int _ b], _) :: _ => some ⟨cndsL t i.toNat (bc cs a b) [], fun y => .one { keep := [0, 1, 5, 6], wr := [0], ic := [5] } (ub (bc cs a b) t [] i) (.exit 0) (ub y.2 t y.1 0)⟩
 | _, _, _, _ => none
noncomputable def xn : Env := { P := Tryz.prog, vw := nV, res := LU, ls := UA }
theorem Pe (x : Src) (t : Int) : fnT xn 0 sJ [.ptr 0 0, .int .i64 t] [au x] = (
 .bind (aX (bc (ah aR x.l) (↑x.k : Int) x.s) (3 : Int)) fun y0 =>
 let q3 := (↑y0.2.k : Int);
 let q := bc (ah aR y0.2.l) q3 y0.2.s;
 let q1 := ai 21 [(0, .ptr 0 0), (1, aa t), (5, .sl 1 0 0 false), (6, aa y0.1)];
 let q2 : Hp := [some ([ab aR q.l, aa (↑q.k : Int), aa q.s], 138), some ([.aJ []], 34)]; .ag [ao (Env.P xn) 103 [.ptr 0 0, aa 3] [some ([ab aR x.l, aa (↑x.k : Int), aa x.s], 138)] (aj.mk (aa y0.1) [some ([ab
  aR y0.2.l, aa q3, aa y0.2.s], 138)] [0])] (.bind (cndsL t y0.1.toNat q []) fun y1 => .ag [St.mk q1 [some ([ab aR y0.2.l, aa q3, aa y0.2.s], 138), some ([.aJ []], 34)] [0] = St.mk q1 q2 [0], aV (Env.P xn) 1
  (blk Tryz.prog sJ 0) (St.mk q1 q2 [0]) (Ex.exit 0) (St.mk (ai 21 [(0, .ptr 0 0), (1, aa t), (5, .sl 1 0 y1.1.length false), (6, aa 0)]) [some ([ab aR y1.2.l, aa (↑y1.2.k : Int), aa y1.2.s], 138), some ([.aJ (ah aH
  y1.1)], 34)] [0])] (.done (aj.mk (ab aH y1.1) [some ([ab aR y1.2.l, aa (↑y1.2.k : Int), aa y1.2.s], 138)] [0]))) : T _) := (T.force_eq _).symm.trans (by kernel_rfl)
theorem uQ {x : Src} {t : Int} (ht : 0 <= t /\ t < 3) {c : Nat} (h : x.OK (c + 123)) :
  ao Tryz.prog sJ [.ptr 0 0, .int .i64 t] [au x] ⟨ab aH (fw x t).1, [au (fw x t).2], [0]⟩ := by
 have h1 := dx (c := c + 120) (n := 3) (h.less (by omega)) (by omega)
 refine bh (E := xn) follows named (Pe x t) (by simp) ?_
 simp only [T.WP, All, aA, dF]
 have hl := G0 ht (aX x 3).1.toNat (aX x 3).2 [] c (h1.1.less (by omega)) (by simp only [List.length_nil]; omega)
 rw [show (((aX x 3).1.toNat : Nat) : Int) = (aX x 3).1 by omega] at hl
 rintro y rfl
 refine ⟨fc (c := c + 120) _ _ (h.less (by omega)), ?_⟩
 rintro y rfl
 exact ⟨⟨bn, .bg hl⟩, ⟨rfl, rfl, by simp⟩⟩
theorem uP {x : Src} {t : Int} (ht : 0 <= t /\ t < 3) {c : Nat} (h : x.OK (c + 123)) :
  (∀ q ∈ (fw x t).1, gO (de t) q) /\ (fw x t).1.length <= 2 /\ (fw x t).2.OK c := by
 have h1 := dx (c := c + 120) (n := 3) (h.less af) af
 have := GZ ht (aX x 3).1.toNat (aX x 3).2 [] c (h1.1.less af) (by simp)
 exact ⟨this.1, by unfold fw; rw [this.2.1, List.length_nil]; omega, this.2.2⟩
abbrev kC : Nat := 189
abbrev Ap : Nat := 241
abbrev gM : Nat := 178
noncomputable def xg : Vw := fun t cs i => bif Nat.beq t kC then some (aT ((ae aT cs).getD i Sx.zero)) else bif Nat.beq t Ap then some (b8 ((ae b8 cs).getD i a6.zero)) else bif Nat.beq t Fs then some (aH ((ae aH cs).getD i a6.zero)) else bif Nat.beq t gM then some (aY ((ae aY cs).getD i Op'.zero)) else nV t cs i
noncomputable def FT (S : aS) : Env := { P := Tryz.prog, vw := nV, res := tU S }
theorem V7 (S : aS) (x : Src) (t : Int) : fnT (FT S) 0 qq [.ptr 0 0, .int .i64 t] [au x] = (
 let q5 := List.getD (ae aq (ah aq S)) t.toNat (Tb.mk [] [] [] false);
 let q := q5.aw;
 let q1 := bt.mk [] (0 : Int) (0 : Int) (0 : Int) (0 : Int) (0 : Int) [] false;
 let q7 := ah ba q;
 let q2 := ae ba q7;
 let q4 := (↑q.length : Int);
 let q3 := q4 - 1;
 let q6 : List V := [.ptr 0 0, aa 2]; .bind PUnit.unit fun _ => .ag [ao Tryz.prog 7 [] [] (aj.mk (.agg [ab aq S]) [] [])] (.ag [0 <= t /\ t < (↑S.length : Int), List.take 4 (List.drop (t.toNat * 4) (ah aq S)) = (aq q5)]
  (.bind (aX (bc (ah aR x.l) (↑x.k : Int) x.s) q4) fun y1 =>
 let q8 := List.getD q2 y1.1.toNat q1; .ag [ao Tryz.prog 103 [.ptr 0 0, aa q4] [au x] (aj.mk (aa y1.1) [au y1.2] [0])] (.ag [0 <= y1.1 /\ y1.1 < q4, List.take 8 (List.drop (y1.1.toNat * 8) q7) = [.str q8.name, aa q8.kind, aa
  q8.min, aa q8.max, aa q8.low, aa q8.high, .str q8.ref, .bool q8.eR]] (.bind (bo (bc (ah aR y1.2.l) (↑y1.2.k : Int) y1.2.s) (2 : Int)) fun y2 =>
 let q9 := aX (bc (ah aR y2.2.l) (↑y2.2.k : Int) y2.2.s) (2 : Int); .ag [ao Tryz.prog 105 q6 [au y1.2] (aj.mk (.bool y2.1) [au y2.2] [0])] (bif y2.1 then .bind q9 fun y3 =>
 let bD := IntKind.i64.wrap q3 - y3.1;
 let ca := IntKind.i64.wrap bD;
 let br := List.getD q2 ca.toNat q1;
 let bL := br.name; .ag [ao Tryz.prog 103 q6 [au y2.2] (aj.mk (aa y3.1) [au y3.2] [0])] (.ag [0 <= IntKind.i64.wrap bD /\ IntKind.i64.wrap bD < q4, List.take 8 (List.drop (ca.toNat * 8) q7) = [.str bL, aa br.kind, aa
  br.min, aa br.max, aa br.low, aa br.high, .str br.ref, .bool br.eR]] (.bind (aX (bc (ah aR y3.2.l) (↑y3.2.k : Int) y3.2.s) (2 : Int)) fun y4 =>
 let cU := IntKind.i64.wrap ((6 : Int) + y4.1); .ag [ao Tryz.prog 103 q6 [au y3.2] (aj.mk (aa y4.1) [au y4.2] [0])] (.bind (gS (bc (ah aR y4.2.l) (↑y4.2.k : Int) y4.2.s) br.kind) fun y5 =>
 let eC : V := .agg [.str bL, aa cU, ab ak y5.1]; .ag [ao Tryz.prog 107 [.ptr 0 0, aa br.kind] [au y4.2] (aj.mk (ab ak y5.1) [au y5.2] [0])] (bif br.kind == 1 then .bind (bo (bc (ah aR y5.2.l)
  (↑y5.2.k : Int) y5.2.s) (4 : Int)) fun y6 => .ag [ao Tryz.prog 105 [.ptr 0 0, aa 4] [au y5.2] (aj.mk (.bool y6.1) [au y6.2] [0])] (bif !y6.1 then .bind (aX (bc (ah aR y6.2.l) (↑y6.2.k : Int) y6.2.s) (5 : Int))
  fun y7 => .ag [ao Tryz.prog 103 [.ptr 0 0, aa 5] [au y6.2] (aj.mk (aa y7.1) [au y7.2] [0])] (.bind (aX (bc (ah aR y7.2.l) (↑y7.2.k : Int) y7.2.s) (9 : Int)) fun y8 => .ag [ao Tryz.prog 103 [.ptr 0 0, aa 9]
  [au y7.2] (aj.mk (aa y8.1) [au y8.2] [0])] (.done (aj.mk (.agg [.str bL, aa (IntKind.i64.wrap ((1 : Int) + y7.1)), .dsl 1 false [aa 1, aa (IntKind.i64.wrap (y8.1 - 3)), .str []]]) [au y8.2] [0]))) else .done (aj.mk eC
  [au y6.2] [0])) else .done (aj.mk eC [au y5.2] [0]))))) else .bind q9 fun y9 =>
 let fA := IntKind.i64.wrap ((6 : Int) + y9.1); .ag [ao Tryz.prog 103 q6 [au y2.2] (aj.mk (aa y9.1) [au y9.2] [0])] (.bind (gS (bc (ah aR y9.2.l) (↑y9.2.k : Int) y9.2.s) q8.kind) fun cx =>
 let fB : V := .agg [.str q8.name, aa fA, ab ak cx.1]; .ag [ao Tryz.prog 107 [.ptr 0 0, aa q8.kind] [au y9.2] (aj.mk (ab ak cx.1) [au cx.2] [0])] (bif q8.kind == 1 then .bind (bo (bc (ah aR cx.2.l)
  (↑cx.2.k : Int) cx.2.s) (4 : Int)) fun cj => .ag [ao Tryz.prog 105 [.ptr 0 0, aa 4] [au cx.2] (aj.mk (.bool cj.1) [au cj.2] [0])] (bif !cj.1 then .bind (aX (bc (ah aR cj.2.l) (↑cj.2.k : Int) cj.2.s) (5
  : Int)) fun dk => .ag [ao Tryz.prog 103 [.ptr 0 0, aa 5] [au cj.2] (aj.mk (aa dk.1) [au dk.2] [0])] (.bind (aX (bc (ah aR dk.2.l) (↑dk.2.k : Int) dk.2.s) (9 : Int)) fun eE => .ag [ao Tryz.prog 103
  [.ptr 0 0, aa 9] [au dk.2] (aj.mk (aa eE.1) [au eE.2] [0])] (.done (aj.mk (.agg [.str q8.name, aa (IntKind.i64.wrap ((1 : Int) + dk.1)), .dsl 1 false [aa 1, aa (IntKind.i64.wrap (eE.1 - 3)), .str []]]) [au eE.2]
  [0]))) else .done (aj.mk fB [au cj.2] [0])) else .done (aj.mk fB [au cx.2] [0])))))))) : T _) := (T.force_eq _).symm.trans (by kernel_rfl)
structure ke (tb : Tb) (m : Mt) : Prop where
 fn : 1 <= m.func /\ m.func <= 7
 len : m.val.length <= 8
 aG : ∃ c ∈ tb.aw, m.aG = c.name /\ b7 c.kind m.val /\ (m.func <= 5 -> c.kind = 1 /\ m.val.length = 1)
theorem D6 {n : Int} (h : -1000000000 <= n /\ n <= 1000000000) : fk ⟨1, n, []⟩ = true := by
 simp [fk, tJ, bz, h.1, h.2]
def NX (tb : Tb) (c : Nat) (r : aj) : Prop := ∃ q x', r = ⟨.agg (b8 q), [au x'], [0]⟩ /\ ke tb q /\ x'.OK c
theorem V8 {S : aS} (hS : ao Tryz.prog nj [] [] ⟨.agg [ab aq S], [], []⟩) (x : Src) (t : Int) (ht : 0 <= t /\ t < S.length) (hT : og (S.getD t.toNat ⟨[], [], [], false⟩)) (h2 : 2 <= (S.getD t.toNat ⟨[], [], [], false⟩).aw.length) {c : Nat} (h : x.OK (c + 36)) :
  ∃ q x', ao Tryz.prog qq [.ptr 0 0, .int .i64 t] [au x] ⟨.agg (b8 q), [au x'], [0]⟩ /\ ke (S.getD t.toNat ⟨[], [], [], false⟩) q /\ x'.OK c := by
 have aL := Au S t ht
 suffices hh : ∃ r, ao Tryz.prog qq [.ptr 0 0, .int .i64 t] [au x] r /\ NX (S.getD t.toNat ⟨[], [], [], false⟩) c r by
  obtain ⟨r, h1, q, x', rfl, h2, h3⟩ := hh
  exact ⟨q, x', h1, h2, h3⟩
 generalize Dq : S.getD t.toNat ⟨[], [], [], false⟩ = tb at *
 have hle := hT.le
 have o1 := dx (c := c + 33) (n := (tb.aw.length : Int)) (h.less af) af
 obtain ⟨bS, cB⟩ := qj tb.aw _ o1.2
 have o2 := gf (x := (aX x (tb.aw.length : Int)).2) (n := 2) (c := c + 30) (o1.1.less af) af
 refine ki (E := FT S) follows named (V7 S x t) ?_
 simp only [az, T.WP, All, aA, aD, aE, aF, dF, bJ.ae, cR.ae, Dq]
 rintro y -
 refine ⟨hS, ⟨⟨ht.1, ht.2⟩, aL⟩, ?_⟩
 rintro y1 e1
 have n1 := fc (c := c + 33) x (tb.aw.length : Int) (h.less af)
 rw [<- e1] at o1 o2 bS cB n1
 clear e1
 refine ⟨n1, ⟨⟨o1.2.1, o1.2.2⟩, bS⟩, ?_⟩
 rintro y2 e2
 have n2 := iS (c := c + 30) y1.2 2 (o1.1.less af) af
 rw [<- e2] at o2 n2
 clear e2
 refine ⟨n2, fun hc => ?_, fun hc => ?_⟩
 ·clear bS cB
  rintro y3 e3
  have o3 := dx (x := y2.2) (c := c + 27) (n := 2) (o2.less af) af
  have n3 := fc (c := c + 27) y2.2 2 (o2.less af)
  rw [<- e3] at o3 n3
  clear e3
  have w0 : IntKind.i64.wrap (IntKind.i64.wrap ((tb.aw.length : Int) - 1) - y3.1) = (tb.aw.length : Int) - 1 - y3.1 := by
   rw [cQ (n := (tb.aw.length : Int) - 1) af, cQ af]
  have hr : 0 <= (tb.aw.length : Int) - 1 - y3.1 /\ (tb.aw.length : Int) - 1 - y3.1 < tb.aw.length := af
  refine ⟨n3, ?_⟩
  rw [w0]
  obtain ⟨bS, cB⟩ := qj tb.aw _ hr
  refine ⟨⟨⟨hr.1, hr.2⟩, bS⟩, ?_⟩
  clear bS
  generalize gl : tb.aw.getD ((tb.aw.length : Int) - 1 - y3.1).toNat ⟨[], 0, 0, 0, 0, 0, [], false⟩ = aG at *
  have jQ := hT.kd _ cB
  rintro y4 e4
  have o4 := dx (x := y3.2) (c := c + 24) (n := 2) (o3.1.less af) af
  have n4 := fc (c := c + 24) y3.2 2 (o3.1.less af)
  rw [<- e4] at o4 n4
  clear e4
  refine ⟨n4, ?_⟩
  rintro y5 e5
  have d5 := x6 (x := y4.2) (k := aG.kind) (c := c + 9) (o4.1.less af) jQ
  have o5 := uS y4.2 aG.kind (c := c + 9) (o4.1.less af)
  have n5 := x7 (c := c + 9) y4.2 aG.kind (o4.1.less af)
  rw [<- e5] at d5 o5 n5
  clear e5
  have w4 : IntKind.i64.wrap (6 + y4.1) = 6 + y4.1 := cQ af
  refine ⟨n5, fun hk => ?_, fun hk => ?_⟩
  ·rintro y6 e6
   have o6 := gf (x := y5.2) (n := 4) (c := c + 6) (o5.less af) af
   have n6 := iS (c := c + 6) y5.2 4 (o5.less af) af
   rw [<- e6] at o6 n6
   clear e6
   refine ⟨n6, fun h6 => ?_, fun h6 => ?_⟩
   ·rintro y7 e7
    have o7 := dx (x := y6.2) (c := c + 3) (n := 5) (o6.less af) af
    have n7 := fc (c := c + 3) y6.2 5 (o6.less af)
    rw [<- e7] at o7 n7
    clear e7
    refine ⟨n7, ?_⟩
    rintro y8 e8
    have o8 := dx (x := y7.2) (c := c) (n := 9) (o7.1.less af) af
    have n8 := fc (c := c) y7.2 9 (o7.1.less af)
    rw [<- e8] at o8 n8
    clear e8
    refine ⟨n8, ?_⟩
    have w7 : IntKind.i64.wrap (1 + y7.1) = 1 + y7.1 := cQ af
    have w8 : IntKind.i64.wrap (y8.1 - 3) = y8.1 - 3 := cQ af
    rw [w7, w8]
    exact ⟨⟨aG.name, 1 + y7.1, [⟨1, y8.1 - 3, []⟩]⟩, _, rfl, ⟨by show 1 <= 1 + y7.1 /\ 1 + y7.1 <= 7; omega, by simp, ⟨aG, cB, rfl, .one ⟨D6 af, hk.symm⟩, fun _ => ⟨hk, rfl⟩⟩⟩, o8.1⟩
   ·rw [w4]
    exact ⟨⟨aG.name, 6 + y4.1, y5.1⟩, _, rfl, ⟨by show 1 <= 6 + y4.1 /\ 6 + y4.1 <= 7; omega, by show y5.1.length <= 8; omega, ⟨aG, cB, rfl, d5.1, fun h => by have h' : 6 + y4.1 <= 5 := h; omega⟩⟩, o6.less af⟩
  ·rw [w4]
   exact ⟨⟨aG.name, 6 + y4.1, y5.1⟩, _, rfl, ⟨by show 1 <= 6 + y4.1 /\ 6 + y4.1 <= 7; omega, by show y5.1.length <= 8; omega, ⟨aG, cB, rfl, d5.1, fun h => by have h' : 6 + y4.1 <= 5 := h; omega⟩⟩, o5.less af⟩
 ·clear bS
  generalize gl : tb.aw.getD y1.1.toNat ⟨[], 0, 0, 0, 0, 0, [], false⟩ = aG at *
  have jQ := hT.kd _ cB
  rintro y4 e4
  have o4 := dx (x := y2.2) (c := c + 24) (n := 2) (o2.less af) af
  have n4 := fc (c := c + 24) y2.2 2 (o2.less af)
  rw [<- e4] at o4 n4
  clear e4
  refine ⟨n4, ?_⟩
  rintro y5 e5
  have d5 := x6 (x := y4.2) (k := aG.kind) (c := c + 9) (o4.1.less af) jQ
  have o5 := uS y4.2 aG.kind (c := c + 9) (o4.1.less af)
  have n5 := x7 (c := c + 9) y4.2 aG.kind (o4.1.less af)
  rw [<- e5] at d5 o5 n5
  clear e5
  have w4 : IntKind.i64.wrap (6 + y4.1) = 6 + y4.1 := cQ af
  refine ⟨n5, fun hk => ?_, fun hk => ?_⟩
  ·rintro y6 e6
   have o6 := gf (x := y5.2) (n := 4) (c := c + 6) (o5.less af) af
   have n6 := iS (c := c + 6) y5.2 4 (o5.less af) af
   rw [<- e6] at o6 n6
   clear e6
   refine ⟨n6, fun h6 => ?_, fun h6 => ?_⟩
   ·rintro y7 e7
    have o7 := dx (x := y6.2) (c := c + 3) (n := 5) (o6.less af) af
    have n7 := fc (c := c + 3) y6.2 5 (o6.less af)
    rw [<- e7] at o7 n7
    clear e7
    refine ⟨n7, ?_⟩
    rintro y8 e8
    have o8 := dx (x := y7.2) (c := c) (n := 9) (o7.1.less af) af
    have n8 := fc (c := c) y7.2 9 (o7.1.less af)
    rw [<- e8] at o8 n8
    clear e8
    refine ⟨n8, ?_⟩
    have w7 : IntKind.i64.wrap (1 + y7.1) = 1 + y7.1 := cQ af
    have w8 : IntKind.i64.wrap (y8.1 - 3) = y8.1 - 3 := cQ af
    rw [w7, w8]
    exact ⟨⟨aG.name, 1 + y7.1, [⟨1, y8.1 - 3, []⟩]⟩, _, rfl, ⟨by show 1 <= 1 + y7.1 /\ 1 + y7.1 <= 7; omega, by simp, ⟨aG, cB, rfl, .one ⟨D6 af, hk.symm⟩, fun _ => ⟨hk, rfl⟩⟩⟩, o8.1⟩
   ·rw [w4]
    exact ⟨⟨aG.name, 6 + y4.1, y5.1⟩, _, rfl, ⟨by show 1 <= 6 + y4.1 /\ 6 + y4.1 <= 7; omega, by show y5.1.length <= 8; omega, ⟨aG, cB, rfl, d5.1, fun h => by have h' : 6 + y4.1 <= 5 := h; omega⟩⟩, o6.less af⟩
  ·rw [w4]
   exact ⟨⟨aG.name, 6 + y4.1, y5.1⟩, _, rfl, ⟨by show 1 <= 6 + y4.1 /\ 6 + y4.1 <= 7; omega, by show y5.1.length <= 8; omega, ⟨aG, cB, rfl, d5.1, fun h => by have h' : 6 + y4.1 <= 5 := h; omega⟩⟩, o5.less af⟩
theorem zm {t : Int} (ht : 0 <= t /\ t < 3) : 2 <= (de t).aw.length /\ (de t).aw.length <= 3 := by
 have : t = 0 \/ t = 1 \/ t = 2 := af
 rcases this with rfl | rfl | rfl <;> decide
theorem J3 {t : Int} (ht : 0 <= t /\ t < 3) : ∃ g : Src -> Mt × Src, ∀ (c : Nat) (x : Src), x.OK (c + 36) ->
  (ao Tryz.prog qq [.ptr 0 0, .int .i64 t] [au x] ⟨.agg (b8 (g x).1), [au (g x).2], [0]⟩ /\ ke (de t) (g x).1) /\ (g x).2.OK c :=
 BV (R := fun x q x' => ao Tryz.prog qq [.ptr 0 0, .int .i64 t] [au x] ⟨.agg (b8 q), [au x'], [0]⟩ /\ ke (de t) q) fun c x hx => by
  obtain ⟨q, x', h1, h2, h3⟩ := V8 rl x t ht (As ht) (zm ht).1 hx
  exact ⟨q, x', ⟨h1, h2⟩, h3⟩
noncomputable def jb (x : Src) (t : Int) : Mt × Src := if h : 0 <= t /\ t < 3 then Classical.choose (J3 h) x else (default, x)
theorem DU {x : Src} {t : Int} (ht : 0 <= t /\ t < 3) {c : Nat} (h : x.OK (c + 36)) :
  ao Tryz.prog qq [.ptr 0 0, .int .i64 t] [au x] ⟨.agg (b8 (jb x t).1), [au (jb x t).2], [0]⟩ /\ ke (de t) (jb x t).1 /\ (jb x t).2.OK c := by
 have := Classical.choose_spec (J3 ht) c x h
 unfold jb
 rw [dif_pos ht]
 exact ⟨this.1.1, this.1.2, this.2⟩
abbrev sW : Nat := 230
abbrev pT : Nat := 9
def pkL (tb : Tb) : Nat -> Nat -> Src -> List (List UInt8) -> List (List UInt8) × Src
 | 0, _, x, l => (l, x)
 | k + 1, i, x, l => pkL tb k (i + 1) (bo x 2).2 (bif (bo x 2).1 then l ++ [(tb.aw.getD i ⟨[], 0, 0, 0, 0, 0, [], false⟩).name] else l)
def ug (x : Src) (tb : Tb) (l : List (List UInt8)) (i : Int) : St := ⟨ai 38 [(0, .ptr 0 0), (5, .ptr 1 0), (6, .sl 2 0 l.length false), (7, .int .i64 i)], [au x, some (aq tb, fO), some ([.aJ (ah aW l)], pT)], [0]⟩
def WM : Ex -> Kp := fun _ => { keep := [0, 5, 6, 7], wr := [0] }
noncomputable def A0 (S : aS) : Env := { P := Tryz.prog, vw := nV, res := tU S }
theorem Lo (x : Src) (tb : Tb) (l : List (List UInt8)) (i : Int) : bx (A0 []) 1 WM (lp Tryz.prog sW 0) (ug x tb l i) = (
 let q4 := ah ba tb.aw;
 let q := List.getD (ae ba q4) i.toNat (bt.mk [] (0 : Int) (0 : Int) (0 : Int) (0 : Int) (0 : Int) [] false);
 let q1 := (↑tb.aw.length : Int);
 let q2 := IntKind.i64.wrap (i + 1);
 let q3 := ah aW l; bif decide (i < q1) then .bind (bo (bc (ah aR x.l) (↑x.k : Int) x.s) (2 : Int)) fun y0 => .ag [ao Tryz.prog 105 [.ptr 0 0, aa 2] [au x] (aj.mk (.bool y0.1) [au y0.2] [0])] (bif y0.1 then
  .ag [0 <= i /\ i < q1, List.take 8 (List.drop (i.toNat * 8) q4) = (ba q)] (.ag [0 = 0, q3.length = l.length * 1, l.length + 1 <= 9223372036854775807, (l.length + 1) * 16 <= 140737488355328] (.done (Ex.normal, St.mk (ai 38 [(0,
  .ptr 0 0), (5, .ptr 1 0), (6, .sl 2 0 (l.length + 1) false), (7, aa q2)]) [au y0.2, some ((aq tb), 44), some ([.aJ (ah aW l ++ [.str q.name])], 9)] [0]))) else .done (Ex.normal, St.mk (ai 38 [(0, .ptr 0 0), (5, .ptr 1
  0), (6, .sl 2 0 l.length false), (7, aa q2)]) [au y0.2, some ((aq tb), 44), some ([.aJ q3], 9)] [0])) else .done (Ex.exit 0, St.mk (ai 38 [(0, .ptr 0 0), (5, .ptr 1 0), (6, .sl 2 0 l.length false), (7, aa i)]) [au x, some
  ((aq tb), 44), some ([.aJ q3], 9)] [0]) : T _) := by kernel_rfl
theorem Em (tb : Tb) (hle : tb.aw.length <= 1000) : ∀ (k i : Nat) (x : Src) (l : List (List UInt8)) (c : Nat), i + k = tb.aw.length -> x.OK (c + k * 3) -> l.length <= i ->
  a8 Tryz.prog 1 (lp Tryz.prog sW 0) (ug x tb l i) (.exit 0) (ug (pkL tb k i x l).2 tb (pkL tb k i x l).1 tb.aw.length)
 | 0, i, x, l, c, hi, h, hl => by
  obtain rfl : i = tb.aw.length := hi
  refine bl (E := A0 []) follows named (Lo x tb l (tb.aw.length : Nat)) ?_
  simp only [az, T.WP, All, aB, aC, aA]
  exact ⟨fun h => af, fun _ => ⟨rfl, rfl⟩⟩
 | k + 1, i, x, l, c, hi, h, hl => by
  have o1 := gf (x := x) (n := 2) (c := c + k * 3) (h.less af) af
  have aL := (qj tb.aw i af).1
  have w1 : IntKind.i64.wrap ((i : Int) + 1) = ((i + 1 : Nat) : Int) := bE af
  refine bl (E := A0 []) follows named (Lo x tb l (i : Nat)) ?_
  simp only [az, T.WP, All, aB, aC, aA, w1, dF, cR.ae]
  refine ⟨fun _ => ?_, fun h => af⟩
  rintro y e
  have n1 := iS (c := c + k * 3) x 2 (h.less af) af
  rw [pkL]
  rw [<- e] at o1 n1 ⊢
  clear e
  refine ⟨n1, fun hy => ?_, fun hy => ?_⟩
  ·rw [hy, cond_true]
   have ih := Em tb hle k (i + 1) y.2 (l ++ [(tb.aw.getD i ⟨[], 0, 0, 0, 0, 0, [], false⟩).name]) c af o1 (by simp only [List.length_append, List.length_singleton]; omega)
   refine ⟨⟨⟨af, af⟩, aL⟩, ⟨bn, by rw [dM.length], af, af⟩, ?_⟩
   simp only [ug, dU, aW, List.length_append, List.length_singleton, Int.toNat_natCast] at ih ⊢
   exact ih
  ·rw [hy, cond_false]
   exact Em tb hle k (i + 1) y.2 l c af o1 af
def lS (x : Src) (t : Int) : List (List UInt8) × Src :=
 let p := pkL (de t) (de t).aw.length 0 x []
 (bif (bo p.2 3).1 then p.1 ++ [ld] else p.1, (bo p.2 3).2)
noncomputable def ak9 (cs : List V) : Tb := match cs with
 | [.str nm, .dsl _ _ cc, .dsl _ _ uu, .bool b] => bw nm cc uu b
 | _ => .zero
noncomputable def U7 : Nat -> St -> Option bT := fun id s => match id, s.hp with
 | 0, some ([.dsl _ _ cs, .int _ a, .int _ b], _) :: some ([.str nm, .dsl _ _ cc, .dsl _ _ uu, .bool r], _) :: _ => some ⟨pkL (bw nm cc uu r) (bw nm cc uu r).aw.length 0 (bc cs a b) [], fun y => .one { keep := [0, 5, 6, 7], wr := [0], ic := [6] } (ug (bc cs a b) (bw nm cc uu r) [] 0) (.exit 0) (ug y.2 (bw nm cc uu r) y.1 (bw nm cc uu r).aw.length)⟩
 | _, _ => none
noncomputable def FX (S : aS) : Env := { P := Tryz.prog, vw := nV, res := tU S, ls := U7 }
theorem Yn (S : aS) (x : Src) (t : Int) : fnT (FX S) 0 sW [.ptr 0 0, .int .i64 t] [au x] = (
 let q1 := List.getD (ae aq (ah aq S)) t.toNat (Tb.mk [] [] [] false);
 let q := bw q1.name (ah ba q1.aw) (ah aN q1.uniq) q1.root;
 let q2 : List V := [.str q.name, ab ba q.aw, ab aN q.uniq, .bool q.root];
 let q3 := ai 38 [(0, .ptr 0 0), (5, .ptr 1 0), (6, .sl 2 0 0 false), (7, aa 0)];
 let q4 := bc (ah aR x.l) (↑x.k : Int) x.s; .bind PUnit.unit fun _ => .ag [ao Tryz.prog 7 [] [] (aj.mk (.agg [ab aq S]) [] [])] (.ag [0 <= t /\ t < (↑S.length : Int), List.take 4 (List.drop (t.toNat * 4) (ah aq
  S)) = (aq q1)] (.bind (pkL q q.aw.length 0 q4 []) fun y1 => .ag [St.mk q3 [au x, some ((aq q1), 44), some ([.aJ []], 9)] [0] = St.mk q3 [au q4, some (q2, 44), some ([.aJ []], 9)] [0], aV Tryz.prog 1 (blk Tryz.prog
  sW 0) (St.mk q3 [au q4, some (q2, 44), some ([.aJ []], 9)] [0]) (Ex.exit 0) (St.mk (ai 38 [(0, .ptr 0 0), (5, .ptr 1 0), (6, .sl 2 0 y1.1.length false), (7, aa (↑q.aw.length : Int))]) [au y1.2, some (q2, 44), some ([.aJ
  (ah aW y1.1)], 9)] [0])] (.bind (bo (bc (ah aR y1.2.l) (↑y1.2.k : Int) y1.2.s) (3 : Int)) fun y2 => .ag [ao Tryz.prog 105 [.ptr 0 0, aa 3] [au y1.2] (aj.mk (.bool y2.1) [au y2.2] [0])] (bif y2.1 then
  .ag [0 = 0, List.length (ah aW y1.1) = y1.1.length * 1, y1.1.length + 1 <= 9223372036854775807, (y1.1.length + 1) * 16 <= 140737488355328] (.done (aj.mk (.dsl (y1.1.length + 1) false (ah aW y1.1 ++ [.str [95, 117, 117,
  105, 100]])) [au y2.2] [0])) else .done (aj.mk (ab aW y1.1) [au y2.2] [0]))))) : T _) := (T.force_eq _).symm.trans (by kernel_rfl)
theorem El (tb : Tb) : ∀ (k i : Nat) (x : Src) (l : List (List UInt8)) (c : Nat), i + k = tb.aw.length -> x.OK (c + k * 3) -> (∀ n ∈ l, n = ld \/ ∃ q ∈ tb.aw, n = q.name) ->
  (∀ n ∈ (pkL tb k i x l).1, n = ld \/ ∃ q ∈ tb.aw, n = q.name) /\ (pkL tb k i x l).1.length <= l.length + k /\ (pkL tb k i x l).2.OK c
 | 0, i, x, l, c, hi, h, hl => ⟨hl, Nat.le_refl _, h.less af⟩
 | k + 1, i, x, l, c, hi, h, hl => by
  have o1 := gf (x := x) (n := 2) (c := c + k * 3) (h.less af) af
  rw [pkL]
  cases (bo x 2).1
  ·have := El tb k (i + 1) (bo x 2).2 l c af o1 hl
   exact ⟨this.1, by have := this.2.1; simp only [cond_false]; omega, this.2.2⟩
  ·have := El tb k (i + 1) (bo x 2).2 (l ++ [(tb.aw.getD i ⟨[], 0, 0, 0, 0, 0, [], false⟩).name]) c af o1 (by
    intro n hn
    rcases List.mem_append.1 hn with hn | hn
    ·exact hl n hn
    ·rw [List.mem_singleton.1 hn]
     exact .inr ⟨_, (qj tb.aw i af).2, rfl⟩)
   exact ⟨this.1, by have := this.2.1; rw [List.length_append, List.length_singleton] at this; simp only [cond_true]; omega, this.2.2⟩
theorem Ym {x : Src} {t : Int} (ht : 0 <= t /\ t < 3) {c : Nat} (h : x.OK (c + 12)) :
  ao Tryz.prog sW [.ptr 0 0, .int .i64 t] [au x] ⟨ab aW (lS x t).1, [au (lS x t).2], [0]⟩ /\ (∀ n ∈ (lS x t).1, n = ld \/ ∃ q ∈ (de t).aw, n = q.name) /\ (lS x t).1.length <= 4 /\ (lS x t).2.OK c := by
 have aL := Au aO t ht
 have hlen := zm ht
 unfold lS
 dsimp only
 change List.take 4 (List.drop (t.toNat * 4) (ah aq aO)) = aq (de t) at aL
 generalize hS : aO = S at *
 have hp : ao Tryz.prog nj [] [] ⟨.agg [ab aq S], [], []⟩ := hS ▸ rl
 have qV : t < S.length := by rw [<- hS]; exact ht.2
 have hs : S.getD t.toNat ⟨[], [], [], false⟩ = de t := by rw [<- hS]
 generalize de t = tb at *
 have a1 := El tb tb.aw.length 0 x [] (c + 3) af (h.less af) (by simp)
 have hl := Em tb af tb.aw.length 0 x [] (c + 3) af (h.less af) (Nat.le_refl _)
 generalize hy : pkL tb tb.aw.length 0 x [] = y at *
 have o2 := gf (x := y.2) (n := 3) (c := c) (a1.2.2.less af) af
 have a2 := a1.2.1
 rw [List.length_nil] at a2
 have n2 := iS (c := c) y.2 3 (a1.2.2.less af) af
 generalize hz : bo y.2 3 = z at *
 refine ⟨?_, ?_, ?_, o2⟩
 ·refine bh (E := FX S) follows named (Yn S x t) (by simp) ?_
  simp only [az, T.WP, All, aA, dF, bJ.ae, cm, hs, hy]
  rintro _ -
  refine ⟨hp, ⟨⟨ht.1, qV⟩, aL⟩, ?_⟩
  rintro _ rfl
  refine ⟨⟨bn, .bg hl⟩, ?_⟩
  rintro y' e
  rw [hz] at e
  subst e
  refine ⟨n2, fun h3 => ?_, fun h3 => ?_⟩
  ·rw [h3, cond_true]
   refine ⟨⟨bn, by rw [dM.length], af, af⟩, ?_⟩
   unfold ab
   rw [dU, List.length_append, List.length_singleton]
   exact aQ
  ·rw [h3, cond_false]
   exact aQ
 ·intro n hn
  cases hb : z.1
  ·rw [hb] at hn; exact a1.1 n hn
  ·rw [hb, cond_true] at hn
   rcases List.mem_append.1 hn with hn | hn
   ·exact a1.1 n hn
   ·exact .inl (List.mem_singleton.1 hn)
 ·cases z.1
  ·simp only [cond_false]; omega
  ·simp only [cond_true, List.length_append, List.length_singleton]; omega
section
variable {P : Program} {I I1 I2 : Nat -> Prop} {μ μ1 μ2 : Mu} {w w1 w2 : World} {hp bm dw : Hp}
theorem Good.trans {iP dR wr : List Nat} (G1 : Good P I I1 μ μ1 w w1 hp bm (List.range hp.length) iP) (G2 : Good P I1 I2 μ1 μ2 w1 w2 bm dw (List.range bm.length) dR)
  (fX : hp.length <= bm.length) (dK : bm.length <= dw.length) (lM : ∀ b ∈ dR, b < hp.length) (Bn : ∀ b, b < hp.length -> dt bm b -> dt hp b) (sk : ∀ b, b < bm.length -> dt dw b -> dt bm b)
  (Bo : ∀ b ∈ dR, b ∈ iP -> dt bm b) (h1 : ∀ b ∈ iP, b ∈ wr) (h2 : ∀ b ∈ dR, b ∈ wr) : Good P I I2 μ μ2 w w2 hp dw (List.range hp.length) wr := by
 have back : ∀ b g, b < hp.length -> μ1 b = some g -> μ b = some g := by
  intro b g hb hg
  rcases G1.cz b g hg with h | h
  ·exact h
  ·omega
 have uM : ∀ b g, b < hp.length -> ∀ blk, bm[b]? = some (some blk) -> μ1.own b g -> w.heap.size <= g \/ ∃ c, (c = b \/ c ∈ iP) /\ μ.own c g /\ ∃ blk, hp[c]? = some (some blk) := by
  intro b g hb blk bu hg
  by_cases hw : b ∈ iP
  ·rcases G1.dI b (.inr hw) blk bu g hg with h | ⟨c, c1, c2⟩
   ·exact .inl h
   ·exact .inr ⟨c, .inr c1, c2⟩
  ·refine .inr ⟨b, .inl rfl, ?_, Bn b hb ⟨blk, bu⟩⟩
   rcases hg with hg | hg
   ·exact .inl (back b g hb hg)
   ·rw [G1.cT b hw af] at hg; exact .inr hg
 have nK : ∀ (hp : Hp) (b : Nat), b ∈ List.range hp.length \/ hp.length <= b := fun hp b => by rw [List.mem_range]; omega
 have qf : ∀ c k, c ∈ dR -> ∀ blk, bm[c]? = some (some blk) -> μ1.own c k -> w.heap.size <= k /\ k < w2.heap.size \/ ∃ c ∈ wr, μ.own c k /\ ∃ blk, hp[c]? = some (some blk) := by
  intro c k c1 blk c3 c2
  have hc := lM c c1
  rcases uM c k hc blk c3 c2 with h | ⟨d, d1, d2, d3⟩
  ·exact .inl ⟨h, Nat.lt_of_lt_of_le ((G1.holds c (nK hp c) blk c3).lt c2) G2.cr.size⟩
  ·refine .inr ⟨d, ?_, d2, d3⟩
   rcases d1 with rfl | d1
   ·exact h2 d c1
   ·exact h1 d d1
 refine ⟨fun k hk => G2.dq k (G1.dq k hk), fun k hk => ?_, ?_, G1.le.trans G2.le, fun b g hg => ?_, fun b hb hn => ?_, fun b hb blk bu => G2.holds b (nK bm b) blk bu, fun b hb blk bu g hg => ?_, fun b c blk bG g bp hb hc kj dv CN bZ => G2.inj b c blk bG g bp (nK bm b) (nK bm c) kj dv CN bZ⟩
 ·rcases G2.ei k hk with h | ⟨h, h'⟩ | ⟨c, c1, c2, ⟨blk, c3⟩⟩
  ·rcases G1.ei k h with h | ⟨h, h'⟩ | ⟨c, c1, c2, c3⟩
   ·exact .inl h
   ·exact .inr (.inl ⟨h, Nat.lt_of_lt_of_le h' G2.cr.size⟩)
   ·exact .inr (.inr ⟨c, h1 c c1, c2, c3⟩)
  ·exact .inr (.inl ⟨Nat.le_trans G1.cr.size h, h'⟩)
  ·exact .inr (qf c k c1 blk c3 c2)
 ·refine (G1.cr.mono fun k ⟨b, hb, hg⟩ => ⟨b, h1 b hb, hg⟩).trans G2.cr G1.dq fun j hj ⟨b, hb, hg⟩ => ?_
  by_cases eN : b ∈ iP
  ·obtain ⟨blk, bu⟩ := Bo b hb eN
   rcases qf b j hb blk bu hg with h | ⟨c, c1, c2, _⟩
   ·omega
   ·exact ⟨c, c1, c2⟩
  ·refine ⟨b, h2 b hb, ?_⟩
   have bI := lM b hb
   rcases hg with hg | hg
   ·exact .inl (back b j bI hg)
   ·rw [G1.cT b eN af] at hg; exact .inr hg
 ·rcases G2.cz b g hg with h | h
  ·rcases G1.cz b g h with h | h
   ·exact .inl h
   ·exact .inr af
  ·exact .inr af
 ·rw [G2.cT b (fun h => hb (h2 b h)) (fun h => hn af), G1.cT b (fun h => hb (h1 b h)) (fun h => hn af)]
 ·by_cases np : bm.length <= b \/ b ∈ dR
  ·rcases G2.dI b np blk bu g hg with h' | ⟨c, c1, c2, ⟨oo, c3⟩⟩
   ·exact .inl (Nat.le_trans G1.cr.size h')
   ·exact (qf c g c1 oo c3 c2).imp (fun h => h.1) id
  ·simp only [not_or, Nat.not_le] at np
   obtain ⟨oo, dW⟩ := sk b np.1 ⟨blk, bu⟩
   have tk : μ1.own b g := by
    rcases hg with hg | hg
    ·rcases G2.cz b g hg with h' | h'
     ·exact .inl h'
     ·omega
    ·rw [G2.cT b np.2 af] at hg; exact .inr hg
   by_cases CG : hp.length <= b \/ b ∈ iP
   ·rcases G1.dI b CG oo dW g tk with h' | ⟨c, c1, c2, c3⟩
    ·exact .inl h'
    ·exact .inr ⟨c, h1 c c1, c2, c3⟩
   ·simp only [not_or, Nat.not_le] at CG
    rcases uM b g CG.1 oo dW tk with h | ⟨c, c1, c2, c3⟩
    ·exact .inl h
    ·refine .inr ⟨c, ?_, c2, c3⟩
     rcases c1 with rfl | c1
     ·rcases hb with hb | hb
      ·omega
      ·exact hb
     ·exact h1 c c1
theorem Good.pre {wr : List Nat} (G : Good P I I1 μ μ1 w w1 hp bm (List.range hp.length) wr) (fX : hp.length <= bm.length) {t0 : Nat} (p0 : cK P I μ w hp (List.range hp.length) t0) (dO : ∀ b g, μ b = some g -> b < hp.length) (top : Nat) : cK P I1 μ1 w1 bm (List.range bm.length) top := by
 refine ⟨p0.dj.step G.cr G.dq fun k hk => ?_, fun b hb blk h => ?_, fun b hb c hc blk bG g bp h1 h2 h3 h4 => ?_, fun b hb _ => ?_⟩
 ·rcases G.ei k hk with h | ⟨_, h⟩ | ⟨c, c1, c2, ⟨blk, c3⟩⟩
  ·exact Nat.lt_of_lt_of_le (p0.dj k h) G.cr.size
  ·exact h
  ·exact Nat.lt_of_lt_of_le ((p0.holds c (by simpa using eV c3) _ c3).lt c2) G.cr.size
 ·refine G.holds b ?_ blk h
  by_cases h : b < hp.length
  ·exact .inl (by simpa using h)
  ·exact .inr af
 ·have key : ∀ b : Nat, b ∈ List.range hp.length \/ hp.length <= b := by
   intro b
   by_cases h : b < hp.length
   ·exact .inl (by simpa using h)
   ·exact .inr af
  exact G.inj b c blk bG g bp (key b) (key c) h1 h2 h3 h4
 ·cases hμ : μ1 b with
  | none => rfl
  | some g =>
   rcases G.cz b g hμ with h | h
   ·have := dO b g h; omega
   ·omega
theorem Good.ah3 {iP dR wr : List Nat} (G1 : Good P I I1 μ μ1 w w1 hp bm (List.range hp.length) iP) (G2 : Good P I1 I2 μ1 μ2 w1 w2 bm dw (List.range bm.length) dR)
  (fX : hp.length <= bm.length) (dK : bm.length <= dw.length) (lM : ∀ b ∈ dR, b < bm.length) (Bn : ∀ b, b < hp.length -> dt bm b -> dt hp b) (sk : ∀ b, b < bm.length -> dt dw b -> dt bm b)
  (Bo : ∀ b ∈ dR, b ∈ iP \/ hp.length <= b -> dt bm b) (h1 : ∀ b ∈ iP, b ∈ wr) (h2 : ∀ b ∈ dR, b < hp.length -> b ∈ wr) (_ : ∀ b ∈ wr, b ∈ iP \/ b ∈ dR) (_ : ∀ b g, μ b = some g -> b < hp.length) : Good P I I2 μ μ2 w w2 hp dw (List.range hp.length) wr := by
 have back : ∀ b g, b < hp.length -> μ1 b = some g -> μ b = some g := by
  intro b g hb hg
  rcases G1.cz b g hg with h | h
  ·exact h
  ·omega
 have uM : ∀ b g, (∃ blk, bm[b]? = some (some blk)) -> μ1.own b g -> w.heap.size <= g \/ ∃ c, (c = b \/ c ∈ iP) /\ c < hp.length + 1 /\ μ.own c g /\ (c < hp.length -> ∃ blk, hp[c]? = some (some blk)) /\ (c = b -> b < hp.length) /\ ∃ blk, hp[c]? = some (some blk) := by
  rintro b g ⟨blk, bu⟩ hg
  have fin : ∀ c, (c = b \/ c ∈ iP) -> μ.own c g -> (c = b -> b < hp.length) -> (∃ blk, hp[c]? = some (some blk)) -> ∃ c, (c = b \/ c ∈ iP) /\ c < hp.length + 1 /\ μ.own c g /\ (c < hp.length -> ∃ blk, hp[c]? = some (some blk)) /\ (c = b -> b < hp.length) /\ ∃ blk, hp[c]? = some (some blk) := by
   intro c q1 q2 q3 q4
   refine ⟨c, q1, ?_, q2, fun _ => q4, q3, q4⟩
   obtain ⟨blk, q4⟩ := q4
   have := eV q4; omega
  by_cases hb : b < hp.length
  ·by_cases hw : b ∈ iP
   ·rcases G1.dI b (.inr hw) blk bu g hg with h | ⟨c, c1, c2, c3⟩
    ·exact .inl h
    ·exact .inr (fin c (.inr c1) c2 (fun _ => hb) c3)
   ·refine .inr (fin b (.inl rfl) ?_ (fun _ => hb) (Bn b hb ⟨blk, bu⟩))
    rcases hg with hg | hg
    ·exact .inl (back b g hb hg)
    ·rw [G1.cT b hw af] at hg; exact .inr hg
  ·rcases G1.dI b (.inl af) blk bu g hg with h | ⟨c, c1, c2, c3⟩
   ·exact .inl h
   ·refine .inr (fin c (.inr c1) c2 (fun e => ?_) c3)
    obtain ⟨blk, c3⟩ := c3
    rw [<- e]; exact eV c3
 have nK : ∀ (hp : Hp) (b : Nat), b ∈ List.range hp.length \/ hp.length <= b := fun hp b => by rw [List.mem_range]; omega
 have qf : ∀ c k, c ∈ dR -> (∃ blk, bm[c]? = some (some blk)) -> μ1.own c k -> w.heap.size <= k /\ k < w2.heap.size \/ ∃ c ∈ wr, μ.own c k /\ ∃ blk, hp[c]? = some (some blk) := by
  rintro c k c1 ⟨blk, c3⟩ c2
  rcases uM c k ⟨blk, c3⟩ c2 with h | ⟨d, d1, _, d2, _, d5, d3⟩
  ·exact .inl ⟨h, Nat.lt_of_lt_of_le ((G1.holds c (nK hp c) blk c3).lt c2) G2.cr.size⟩
  ·refine .inr ⟨d, ?_, d2, d3⟩
   rcases d1 with rfl | d1
   ·exact h2 d c1 (d5 rfl)
   ·exact h1 d d1
 refine ⟨fun k hk => G2.dq k (G1.dq k hk), fun k hk => ?_, ?_, G1.le.trans G2.le, fun b g hg => ?_, fun b hb hn => ?_, fun b hb blk bu => G2.holds b (nK bm b) blk bu, fun b hb blk bu g hg => ?_, fun b c blk bG g bp hb hc kj dv CN bZ => G2.inj b c blk bG g bp (nK bm b) (nK bm c) kj dv CN bZ⟩
 ·rcases G2.ei k hk with h | ⟨h, h'⟩ | ⟨c, c1, c2, c3⟩
  ·rcases G1.ei k h with h | ⟨h, h'⟩ | ⟨c, c1, c2, c3⟩
   ·exact .inl h
   ·exact .inr (.inl ⟨h, Nat.lt_of_lt_of_le h' G2.cr.size⟩)
   ·exact .inr (.inr ⟨c, h1 c c1, c2, c3⟩)
  ·exact .inr (.inl ⟨Nat.le_trans G1.cr.size h, h'⟩)
  ·exact .inr (qf c k c1 c3 c2)
 ·refine (G1.cr.mono fun k ⟨b, hb, hg⟩ => ⟨b, h1 b hb, hg⟩).trans G2.cr G1.dq fun j hj ⟨b, hb, hg⟩ => ?_
  by_cases hq : b ∈ iP \/ hp.length <= b
  ·rcases qf b j hb (Bo b hb hq) hg with h | ⟨c, c1, c2, _⟩
   ·omega
   ·exact ⟨c, c1, c2⟩
  ·simp only [not_or, Nat.not_le] at hq
   refine ⟨b, h2 b hb hq.2, ?_⟩
   rcases hg with hg | hg
   ·exact .inl (back b j hq.2 hg)
   ·rw [G1.cT b hq.1 af] at hg; exact .inr hg
 ·rcases G2.cz b g hg with h | h
  ·rcases G1.cz b g h with h | h
   ·exact .inl h
   ·exact .inr af
  ·exact .inr af
 ·have gU : b ∉ dR := by
   intro h
   rcases Nat.lt_or_ge b hp.length with h' | h'
   ·exact hb (h2 b h h')
   ·have := lM b h; omega
  rw [G2.cT b gU (fun h => hn af), G1.cT b (fun h => hb (h1 b h)) (fun h => hn af)]
 ·by_cases np : bm.length <= b \/ b ∈ dR
  ·rcases G2.dI b np blk bu g hg with h' | ⟨c, c1, c2, c3⟩
   ·exact .inl (Nat.le_trans G1.cr.size h')
   ·exact (qf c g c1 c3 c2).imp (fun h => h.1) id
  ·simp only [not_or, Nat.not_le] at np
   obtain ⟨oo, dW⟩ := sk b np.1 ⟨blk, bu⟩
   have tk : μ1.own b g := by
    rcases hg with hg | hg
    ·rcases G2.cz b g hg with h' | h'
     ·exact .inl h'
     ·omega
    ·rw [G2.cT b np.2 af] at hg; exact .inr hg
   rcases uM b g ⟨oo, dW⟩ tk with h | ⟨c, c1, _, c2, _, c5, c3⟩
   ·exact .inl h
   ·refine .inr ⟨c, ?_, c2, c3⟩
    rcases c1 with rfl | c1
    ·rcases hb with hb | hb
     ·have := c5 rfl; omega
     ·exact hb
    ·exact h1 c c1
end
theorem ao.YJ {P : Program} {f : FuncId} {vs : List V} {hp bm dw : Hp} {v : V} {wr bs : List Nat} (h : ao P f vs hp ⟨v, bm, wr⟩) (p : eK P bm dw bs) :
  ao P f vs hp ⟨v, dw, wr ++ kt hp bs⟩ := by
 obtain ⟨ht, ny⟩ := h
 have t := p.tidy
 have sk : ∀ b, b < bm.length -> dt dw b -> dt bm b := fun b hb ⟨blk, du⟩ => by
  by_cases mB : b ∈ bs
  ·exact t.j7 b mB
  ·exact ⟨blk, by rw [<- t.frame b hb mB]; exact du⟩
 have fX : hp.length <= bm.length := ht.len
 refine ⟨⟨Nat.le_trans ht.len t.len, fun b hb hn => ?_, fun b hb => ?_, fun b hb du => ht.alive b hb (sk b (Nat.lt_of_lt_of_le hb fX) du)⟩, fun I w μ ch hv pre dO => ?_⟩
 ·simp only [List.mem_append, not_or, fb] at hn
  show dw[b]? = _
  rw [t.frame b (Nat.lt_of_lt_of_le hb fX) (fun h => hn.2 ⟨h, hb⟩)]
  exact ht.frame b hb hn.1
 ·rcases List.mem_append.1 hb with hb | hb
  ·exact ht.AE b hb
  ·exact (fb.1 hb).2
 ·have Lq : cK P I μ w hp (List.range hp.length) bm.length := pre.top t.len
  refine (ny I w μ ch hv Lq dO).mono fun e w' ⟨val, μ', I', he, hR, G⟩ => ?_
  have kx := G.pre fX Lq dO dw.length
  obtain ⟨μ2, G2⟩ := p.run kx (fun b hb => by simpa using t.iu b hb)
  refine ⟨val, μ2, I', he, hR.keep (.refl w' (fun _ => False)) (.refl _) G2.le, ?_⟩
  exact G.ah3 G2 fX t.len t.iu ht.alive sk (fun b hb _ => t.j7 b hb) (fun b hb => by simp [hb]) (fun b hb hl => by simp [fb, hb, hl]) (fun b hb => by
   rcases List.mem_append.1 hb with hb | hb
   ·exact .inl hb
   ·exact .inr (fb.1 hb).1) dO
abbrev kN : Nat := 154
abbrev ew : Nat := 74
abbrev dy : Nat := 53
abbrev jD : Nat := 32
abbrev dZ : Nat := 46
abbrev cO : Nat := 29
noncomputable def fv : Vw := fun t cs i => bif Nat.beq t jD then some (a7 ((ae a7 cs).getD i [])) else bif Nat.beq t dy then some (av ((ae av cs).getD i Rw.zero)) else bif Nat.beq t dZ then some (aI ((ae aI cs).getD i [])) else xg t cs i
noncomputable def EM : Env := { P := Tryz.prog, vw := fv, res := fun _ _ _ => none }
structure ir (r : Rw) : Prop where
 n : r.cells.length <= 1048576
 d : ∀ d ∈ r.cells, d.length <= 1048576
theorem j5 {α : Type} {l : List α} {i : Nat} (d : α) (h : i < l.length) : l.take (i + 1) = l.take i ++ [l.getD i d] := by
 rw [List.take_add_one, List.getD_eq_getElem?_getD, List.getElem?_eq_getElem h]
 rfl
theorem bP {α : Type} {l : List α} {i : Nat} (d : α) (h : i < l.length) : l.getD i d ∈ l := by
 rw [List.getD_eq_getElem?_getD, List.getElem?_eq_getElem h]
 exact List.getElem_mem h
def ue (r : Rw) (l : List aU) (i : Int) : St := ⟨ai 29 [(1, .ptr 0 0), (2, .ptr 1 0), (3, .ptr 2 0), (4, .int .i64 i)], [some (av r, dy), some ([.int .i64 0, .dsl 0 true []], dy), some ([.int .i64 r.id, .sl 3 0 l.length false], dy), some ([.aJ (ah a7 l)], jD)], []⟩
def WE : Ex -> Kp := fun ex => match ex with
 | .normal => { keep := [1, 2, 3, 4], perm := some ([0, 1, 2, 7], [3]) }
 | _ => { keep := [1, 2, 3, 4] }
theorem K5 (r : Rw) (l : List aU) (i : Int) : bx EM 0 WE (lp Tryz.prog kN 0) (ue r l i) = (
 let q2 := ah a7 r.cells;
 let q := List.getD (ae a7 q2) i.toNat [];
 let q1 := (↑r.cells.length : Int);
 let q3 := ah ak q; bif decide (i < q1) then .ag [0 <= i /\ i < q1, List.take 1 (List.drop (i.toNat * 1) q2) = [ab ak q]] (.ag [q3.length = q.length * 3, List.all q3 V.one = true, 0 = 0, 0 = 0, 0 + q.length <=
  9223372036854775807, (0 + q.length) * 32 <= 140737488355328] (.ag [0 = 0, List.length (ah a7 l) = l.length * 1, l.length + 1 <= 9223372036854775807, (l.length + 1) * 24 <= 140737488355328] (.done (Ex.normal, St.mk (ai 29 [(1,
  .ptr 0 0), (2, .ptr 1 0), (3, .ptr 2 0), (4, aa (IntKind.i64.wrap (i + 1)))]) [some ((av r), 53), some ([aa 0, .dsl 0 true []], 53), some ([aa r.id, .sl 3 0 (l.length + 1) false], 53), some ([.aJ (ah a7 l ++ [.dsl (0 +
  q.length) false q3])], 32)] [])))) else .done (Ex.exit 0, St.mk (ai 29 [(1, .ptr 0 0), (2, .ptr 1 0), (3, .ptr 2 0), (4, aa i)]) [some ((av r), 53), some ([aa 0, .dsl 0 true []], 53), some ([aa r.id, .sl 3 0 l.length false],
  53), some ([.aJ (ah a7 l)], 32)] []) : T _) := by kernel_rfl
theorem Ef (r : Rw) (hr : ir r) : ∀ (k i : Nat), i + k = r.cells.length -> a8 Tryz.prog 0 (lp Tryz.prog kN 0) (ue r (r.cells.take i) i) (.exit 0) (ue r r.cells r.cells.length)
 | 0, i, hi => by
  obtain rfl : i = r.cells.length := hi
  rw [List.take_length]
  refine bl (E := EM) follows named (K5 r r.cells (r.cells.length : Nat)) ?_
  simp only [az, T.WP, All, aB, aC, aA]
  exact ⟨fun h => by omega, fun _ => ⟨rfl, rfl⟩⟩
 | k + 1, i, hi => by
  have hn := hr.n
  have aL := bV.at r.cells [] i 1 (by omega) rfl
  have hd := hr.d _ (bP [] (show i < r.cells.length by omega))
  have ih := Ef r hr k (i + 1) (by omega)
  have w1 : IntKind.i64.wrap ((i : Int) + 1) = ((i + 1 : Nat) : Int) := bE (by omega)
  have hl : (r.cells.take i).length = i := by rw [List.length_take]; omega
  refine bl (E := EM) follows named (K5 r (r.cells.take i) (i : Nat)) ?_
  simp only [az, T.WP, All, aB, aC, aA, w1, bV.ae, bq.length, bq.all, bV.length, Int.toNat_natCast, hl, Nat.zero_add]
  refine ⟨fun _ => ⟨aK, aK, aK, ?_⟩, fun h => by omega⟩
  rw [j5 [] (show i < r.cells.length by omega)] at ih
  simp only [ue, dU, a7, m6, ab, List.length_append, List.length_singleton, hl] at ih ⊢
  exact ih
noncomputable def UY : Nat -> St -> Option bT := fun id s => match id, s.hp with
 | 0, some ([.int _ d, .dsl _ _ cs], _) :: _ => some ⟨(), fun _ => .one { keep := [1, 2, 3, 4], lX := [(3, 1)] } (ue ⟨d, ae a7 cs⟩ [] 0) (.exit 0) (ue ⟨d, ae a7 cs⟩ (ae a7 cs) (ae a7 cs).length)⟩
 | _, _ => none
noncomputable def sa : Env := { P := Tryz.prog, vw := fv, res := fun _ _ _ => none, ls := UY }
theorem X7 (r : Rw) : fnT sa 0 kN [.agg (av r)] [] = (
 let q := ae a7 (ah a7 r.cells);
 let q3 := Rw.mk r.id q;
 let q4 : List V := [aa 0, .dsl 0 true []];
 let q1 : Hp := [some ((av q3), 53), some (q4, 53), some ([aa q3.id, .sl 3 0 0 false], 53), some ([.aJ []], 32)];
 let q2 := ai 29 [(1, .ptr 0 0), (2, .ptr 1 0), (3, .ptr 2 0), (4, aa 0)]; .bind PUnit.unit fun _ => .ag [St.mk q2 [some ((av r), 53), some (q4, 53), some ([aa r.id, .sl 3 0 0 false], 53), some ([.aJ []], 32)] [] = St.mk q2 q1
  [], aV (Env.P sa) 0 (blk Tryz.prog kN 0) (St.mk q2 q1 []) (Ex.exit 0) (St.mk (ai 29 [(1, .ptr 0 0), (2, .ptr 1 0), (3, .ptr 2 0), (4, aa (↑q.length : Int))]) [some ((av q3), 53), some (q4, 53), some ([aa q3.id, .sl 3 0
  q.length false], 53), some ([.aJ (ah a7 q)], 32)] [])] (.done (aj.mk (.agg [aa q3.id, ab a7 q]) [] [])) : T _) := (T.force_eq _).symm.trans (by kernel_rfl)
theorem X8 (r : Rw) : fnT sa 1 kN [.agg (av r)] [] = (
 let q := ae a7 (ah a7 r.cells);
 let q3 := Rw.mk r.id q;
 let q4 : List V := [aa 0, .dsl 0 true []];
 let q1 : Hp := [some ((av q3), 53), some (q4, 53), some ([aa q3.id, .sl 3 0 0 false], 53), some ([.aJ []], 32)];
 let q2 := ai 29 [(1, .ptr 0 0), (2, .ptr 1 0), (3, .ptr 2 0), (4, aa 0)];
 let q5 := q.length; .bind PUnit.unit fun _ => .ag [St.mk q2 [some ((av r), 53), some (q4, 53), some ([aa r.id, .sl 3 0 0 false], 53), some ([.aJ []], 32)] [] = St.mk q2 q1 [], aV (Env.P sa) 0 (blk Tryz.prog kN 0) (St.mk
  q2 q1 []) (Ex.exit 0) (St.mk (ai 29 [(1, .ptr 0 0), (2, .ptr 1 0), (3, .ptr 2 0), (4, aa (↑q5 : Int))]) [some ((av q3), 53), some (q4, 53), some ([aa q3.id, .sl 3 0 q5 false], 53), some ([.aJ (ah a7 q)], 32)] [])] (.done
  (aj.mk (.agg [aa q3.id, .sl 0 0 q5 false]) [some ([.aJ (ah a7 q)], 32)] [])) : T _) := (T.force_eq _).symm.trans (by kernel_rfl)
theorem vY (r : Rw) (hr : ir r) : ao Tryz.prog kN [.agg (av r)] [] ⟨.agg (av r), [], []⟩ := by
 refine bh (E := sa) follows named (X7 r) (by simp) ?_
 simp only [T.WP, All, aA, bV.ae]
 have hl := Ef r hr r.cells.length 0 af
 rintro _ -
 exact ⟨⟨bn, .bg hl⟩, aQ⟩
theorem Eh (r : Rw) (hr : ir r) : ao Tryz.prog kN [.agg (av r)] [] ⟨.agg [.int .i64 r.id, .sl 0 0 r.cells.length false], [some ([.aJ (ah a7 r.cells)], jD)], []⟩ := by
 refine bh (E := sa) follows named (X8 r) (by simp) ?_
 simp only [T.WP, All, aA, bV.ae]
 have hl := Ef r hr r.cells.length 0 af
 rintro _ -
 exact ⟨⟨bn, .bg hl⟩, aQ⟩
section
variable {E : Env} {m : Nat} {nf : Ex -> Kp} {c : Code}
theorem gh {α : Type} {l : List α} {i : Nat} (d : α) (h : i < l.length) : l.drop i = l.getD i d :: l.drop (i + 1) := by
 rw [List.drop_eq_getElem_cons h, List.getD_eq_getElem?_getD, List.getElem?_eq_getElem h]
 rfl
theorem lA {α : Type} {st : Nat -> St} {sr : Int -> St} {sx : St} (p : α -> Bool) (L : List α) (d : α) {t : Nat -> T (Ex × St)} {ex ex' : Ex}
  (hm : E.P.follows .mixedOrders = true) (hn : dA E.P) (hx : ex ≠ .normal) (ju : ex' ≠ .normal) (e : ∀ i, bx E m nf c (st i) = t i)
  (h : ∀ i, i < L.length -> (t i).WP (· = bif p (L.getD i d) then (ex', sr i) else (.normal, st (i + 1))))
  (he : (t L.length).WP (· = (ex, sx))) : ∀ (k i : Nat), i + k = L.length ->
   (fidx p (L.drop i) i < 0 -> a8 E.P m c (st i) ex sx) /\ (0 <= fidx p (L.drop i) i -> a8 E.P m c (st i) ex' (sr (fidx p (L.drop i) i)))
 | 0, i, hi => by
  obtain rfl : i = L.length := by omega
  rw [List.drop_length]
  exact ⟨fun _ => .done (iN hm hn (e _) he) hx, fun h => by simp [fidx] at h⟩
 | k + 1, i, hi => by
  have h1 := h i (by omega)
  have ih := lA p L d hm hn hx ju e h he k (i + 1) (by omega)
  rw [gh d (show i < L.length by omega), fidx]
  cases hg : p (L.getD i d) with
  | true =>
   rw [hg] at h1
   have hb := iN hm hn (e i) h1
   simp only [cond_true]
   exact ⟨fun h => by omega, fun _ => .done hb ju⟩
  | false =>
   rw [hg] at h1
   have hb := iN hm hn (e i) h1
   simp only [cond_false]
   exact ⟨fun h => .step hb (ih.1 h), fun h => .step hb (ih.2 h)⟩
end
theorem jN {α : Type} (p : α -> Bool) : ∀ (l : List α) (i : Nat), fidx p l i = -1 \/ (i : Int) <= fidx p l i /\ fidx p l i < (i : Int) + l.length
 | [], _ => .inl rfl
 | x :: xs, i => by
  rw [fidx]
  cases p x
  ·simp only [cond_false, List.length_cons]
   rcases jN p xs (i + 1) with h | h
   ·exact .inl h
   ·exact .inr af
  ·simp only [cond_true, List.length_cons]; exact .inr af
theorem HL {α : Type} (p : α -> Bool) (d : α) : ∀ (l : List α) (i : Nat), 0 <= fidx p l i -> p (l.getD ((fidx p l i).toNat - i) d) = true
 | [], _, h => by simp [fidx] at h
 | x :: xs, i, h => by
  rw [fidx] at h ⊢
  cases hp : p x
  ·rw [hp] at h
   simp only [cond_false] at h ⊢
   have := HL p d xs (i + 1) h
   rcases jN p xs (i + 1) with h2 | h2
   ·omega
   ·rw [show (fidx p xs (i + 1)).toNat - i = (fidx p xs (i + 1)).toNat - (i + 1) + 1 by omega, List.getD_cons_succ]
    exact this
  ·simp only [cond_true]
   rw [show ((i : Int)).toNat - i = 0 by omega, List.getD_cons_zero]
   exact hp
theorem s7 {α : Type} {p : α -> Bool} {l : List α} (d : α) (h : 0 <= fidx p l 0) : (fidx p l 0).toNat < l.length /\ p (l.getD (fidx p l 0).toNat d) = true := by
 refine ⟨?_, by simpa using HL p d l 0 h⟩
 rcases jN p l 0 with h2 | h2 <;> omega
abbrev oO : Nat := 140
abbrev oP : Nat := 215
abbrev oE : Nat := 178
abbrev nd : Nat := 113
abbrev ng : Nat := 191
noncomputable def lj : Env := { P := Tryz.prog, vw := fv, res := fun _ _ _ => none }
def wQ (rows : List Rw) (id : Int) (i : Int) : St := ⟨ai 20 [(0, ab av rows), (1, .int .i64 id), (5, .int .i64 i)], [], []⟩
def Ki : Ex -> Kp := fun ex => match ex with
 | .normal => { keep := [0, 1, 5] }
 | .ret => { keep := [4] }
 | _ => { keep := [] }
theorem Yo (rows : List Rw) (id : Int) (i : Int) : bx lj 0 Ki (lp Tryz.prog oO 0) (wQ rows id i) = (
 let q := List.getD (ae av (ah av rows)) i.toNat (Rw.mk (0 : Int) []); bif decide (i < (↑rows.length : Int)) then .ag [0 <= i /\ i < (↑rows.length : Int), List.take 2 (List.drop (i.toNat * 2) (ah av rows)) = (av q)] (bif
  q.id == id then .done (Ex.ret, St.mk (ai 20 [(4, aa i)]) [] []) else .done (Ex.normal, St.mk (ai 20 [(0, ab av rows), (1, aa id), (5, aa (IntKind.i64.wrap (i + 1)))]) [] [])) else .done (Ex.exit 0, St.mk (ai 20 []) [] []) : T _) := by kernel_rfl
theorem Yq (rows : List Rw) (id : Int) (h : rows.length <= 1048576) :
  (ct rows id < 0 -> a8 Tryz.prog 0 (lp Tryz.prog oO 0) (wQ rows id 0) (.exit 0) ⟨ai 20 [], [], []⟩) /\
  (0 <= ct rows id -> a8 Tryz.prog 0 (lp Tryz.prog oO 0) (wQ rows id 0) .ret ⟨ai 20 [(4, .int .i64 (ct rows id))], [], []⟩) := by
 refine lA (E := lj) (nf := Ki) (st := fun i => wQ rows id (i : Nat)) (sr := fun j => ⟨ai 20 [(4, .int .i64 j)], [], []⟩) (fun r : Rw => r.id == id) rows ⟨0, []⟩ follows named (by simp) (by simp) (fun i => Yo rows id (i : Nat)) (fun i hi => ?_) ?_ rows.length 0 (by simp)
 ·have aL := bN.at rows ⟨0, []⟩ i 2 hi rfl
  simp only [az, T.WP, All, aB, aC, aA, aD, aE, aF, Int.toNat_natCast, bN.ae, bE (show i < 9223372036854775807 by omega)]
  refine ⟨fun _ => ⟨⟨aK, aL⟩, fun h => ?_, fun h => ?_⟩, fun h => by omega⟩
  ·rw [show ((rows.getD i ⟨0, []⟩).id == id) = true from by simpa using h]; rfl
  ·rw [show ((rows.getD i ⟨0, []⟩).id == id) = false from by simpa using h]; rfl
 ·simp only [az, T.WP, All, aB, aC, aA, aD, aE, aF]
  exact ⟨fun h => by omega, fun _ => trivial⟩
noncomputable def U8 : Nat -> St -> Option bT := fun id s => match id, s.tm.get 0, s.tm.get 1 with
 | 0, .dsl _ _ cs, .int _ k => some ⟨ct (ae av cs) k, fun y => .two { keep := [0, 1, 5] } (wQ (ae av cs) k 0) (decide (y < 0)) (.exit 0) ⟨ai 20 [], [], []⟩ .ret ⟨ai 20 [(4, .int .i64 y)], [], []⟩⟩
 | _, _, _ => none
noncomputable def xH : Env := { P := Tryz.prog, vw := fv, res := fun _ _ _ => none, ls := U8 }
theorem Yp (rows : List Rw) (id : Int) : fnT xH 0 oO [ab av rows, .int .i64 id] [] = (
 let q1 := ae av (ah av rows);
 let q := ai 20 [(0, ab av q1), (1, aa id), (5, aa 0)]; .bind (ct q1 id) fun y0 => .ag [St.mk (ai 20 [(0, ab av rows), (1, aa id), (5, aa 0)]) [] [] = St.mk q [] []] (bif decide (y0 < 0) then .ag [aV (Env.P
  xH) 0 (blk Tryz.prog oO 0) (St.mk q [] []) (Ex.exit 0) (St.mk (ai 20 []) [] [])] (.done (aj.mk (aa (-1 : Int)) [] [])) else .ag [aV (Env.P xH) 0 (blk Tryz.prog oO 0) (St.mk q [] []) Ex.ret (St.mk (ai 20 [(4, aa
  y0)]) [] [])] (.done (aj.mk (aa y0) [] []))) : T _) := (T.force_eq _).symm.trans (by kernel_rfl)
theorem Yr {rows : List Rw} {id : Int} (h : ct rows id < 0) : ct rows id = -1 := by
 unfold ct at *
 rcases jN (fun r : Rw => r.id == id) rows 0 with h2 | h2 <;> omega
theorem En (rows : List Rw) (id : Int) (h : rows.length <= 1048576) : ao Tryz.prog oO [ab av rows, .int .i64 id] [] ⟨.int .i64 (ct rows id), [], []⟩ := by
 refine bh (E := xH) follows named (Yp rows id) (by simp) ?_
 simp only [az, T.WP, All, aB, aC, aA, bN.ae]
 have hl := Yq rows id h
 rintro y rfl
 refine ⟨bn, fun h => ⟨.bg (hl.1 h), ?_⟩, fun h => ⟨.bg (hl.2 af), ?_⟩⟩
 ·rw [Yr h]; exact aQ
 ·exact aQ
def wZ (a b : aU) (i : Int) : St := ⟨ai 26 [(0, ab ak a), (1, ab ak b), (5, .int .i64 i)], [], []⟩
def Kr : Ex -> Kp := fun ex => match ex with
 | .normal => { keep := [0, 1, 5] }
 | .ret => { keep := [4] }
 | _ => { keep := [] }
theorem smL (a b : aU) (i : Int) : bx lj 0 Kr (lp Tryz.prog oP 0) (wZ a b i) = (
 let q2 := At.mk (0 : Int) (0 : Int) [];
 let q := List.getD (ae ak (ah ak a)) i.toNat q2;
 let q1 := List.getD (ae ak (ah ak b)) i.toNat q2; bif decide (i < (↑a.length : Int)) then .ag [0 <= i /\ i < (↑a.length : Int), List.take 3 (List.drop (i.toNat * 3) (ah ak a)) = ak q] (.ag [0 <= i /\ i < (↑b.length :
  Int), List.take 3 (List.drop (i.toNat * 3) (ah ak b)) = ak q1] (bif !(q.kind == q1.kind && (q.n == q1.n && (q.t == q1.t && true))) then .done (Ex.ret, St.mk (ai 26 [(4, .bool false)]) [] []) else .done (Ex.normal, St.mk (ai
  26 [(0, ab ak a), (1, ab ak b), (5, aa (IntKind.i64.wrap (i + 1)))]) [] []))) else .done (Ex.exit 0, St.mk (ai 26 []) [] []) : T _) := by kernel_rfl
noncomputable def Vk : Nat -> St -> Option bT := fun id s => match id, s.tm.get 0, s.tm.get 1 with
 | 0, .dsl _ _ cs, .dsl _ _ ds => some ⟨decide (ae ak cs = ae ak ds), fun y => .two { keep := [0, 1, 5] } (wZ (ae ak cs) (ae ak ds) 0) y (.exit 0) ⟨ai 26 [], [], []⟩ .ret ⟨ai 26 [(4, .bool false)], [], []⟩⟩
 | _, _, _ => none
noncomputable def xK : Env := { P := Tryz.prog, vw := fv, res := fun _ _ _ => none, ls := Vk }
theorem smT (a b : aU) : fnT xK 0 oP [ab ak a, ab ak b] [] = (
 let q := ai 26 [(0, ab ak (ae ak (ah ak a))), (1, ab ak (ae ak (ah ak b))), (5, aa 0)];
 let q1 := aj.mk (.bool false) [] []; bif (↑a.length : Int) != (↑b.length : Int) then .done q1 else .bind (decide (ae ak (ah ak a) = ae ak (ah ak b))) fun y0 => .ag [St.mk (ai 26 [(0, ab ak a), (1, ab ak
  b), (5, aa 0)]) [] [] = St.mk q [] []] (bif y0 then .ag [aV (Env.P xK) 0 (blk Tryz.prog oP 0) (St.mk q [] []) (Ex.exit 0) (St.mk (ai 26 []) [] [])] (.done (aj.mk (.bool true) [] [])) else .ag [aV (Env.P xK) 0 (blk
  Tryz.prog oP 0) (St.mk q [] []) Ex.ret (St.mk (ai 26 [(4, .bool false)]) [] [])] (.done q1)) : T _) := by kernel_rfl
def wu (a b : aU) (i : Nat) : Bool := dp (a.getD i ⟨0, 0, []⟩) (b.getD i ⟨0, 0, []⟩)
theorem ac5 {a b : aU} (h : a.length = b.length) : allN (wu a b) a.length 0 = decide (a = b) := by
 rw [Bool.eq_iff_iff, decide_eq_true_eq, mf]
 constructor
 ·intro hh
  refine List.ext_getElem h fun i h1 h2 => ?_
  have := qb.1 (hh i (Nat.zero_le _) af)
  rw [List.getD_eq_getElem?_getD, List.getD_eq_getElem?_getD, List.getElem?_eq_getElem h1, List.getElem?_eq_getElem h2] at this
  exact this
 ·rintro rfl j _ _
  exact qb.2 rfl
theorem ac6 (a b : aU) (ha : a.length <= 1048576) (h : a.length = b.length) :
  (allN (wu a b) a.length 0 = true -> a8 Tryz.prog 0 (lp Tryz.prog oP 0) (wZ a b 0) (.exit 0) ⟨ai 26 [], [], []⟩) /\
  (allN (wu a b) a.length 0 = false -> a8 Tryz.prog 0 (lp Tryz.prog oP 0) (wZ a b 0) .ret ⟨ai 26 [(4, .bool false)], [], []⟩) := by
 refine ij (E := lj) (nf := Kr) (st := fun i => wZ a b (i : Nat)) (n := a.length) (wu a b) follows named (by simp) (by simp) (fun i => smL a b (i : Nat)) (fun i hi => ?_) ?_ a.length 0 (by simp)
 ·have aL := bq.at a ⟨0, 0, []⟩ i 3 hi rfl
  have cA := bq.at b ⟨0, 0, []⟩ i 3 (by omega) rfl
  unfold wu
  simp only [az, T.WP, All, decide_eq_true_eq, decide_eq_false_iff_not, and_true, Int.toNat_natCast, bq.ae, bE (show i < 9223372036854775807 by omega)]
  refine ⟨fun _ => ⟨⟨aK, aL⟩, ⟨aK, cA⟩, fun h => ?_, fun h => ?_⟩, fun h => by omega⟩
  ·rw [show dp (a.getD i ⟨0, 0, []⟩) (b.getD i ⟨0, 0, []⟩) = false from by have h2 : (!dp (a.getD i ⟨0, 0, []⟩) (b.getD i ⟨0, 0, []⟩)) = true := h; rw [Bool.not_eq_true'] at h2; exact h2]; rfl
  ·rw [show dp (a.getD i ⟨0, 0, []⟩) (b.getD i ⟨0, 0, []⟩) = true from by have h2 : (!dp (a.getD i ⟨0, 0, []⟩) (b.getD i ⟨0, 0, []⟩)) = false := h; rw [Bool.not_eq_false'] at h2; exact h2]; rfl
 ·simp only [az, T.WP, All, aB, aC, aA]
  exact ⟨fun h => by omega, fun _ => trivial⟩
theorem zQ (a b : aU) (ha : a.length <= 1048576) : ao Tryz.prog oP [ab ak a, ab ak b] [] ⟨.bool (decide (a = b)), [], []⟩ := by
 refine bh (E := xK) follows named (smT a b) (by simp) ?_
 simp only [az, T.WP, All, aA, bq.ae]
 refine ⟨fun h => ?_, fun h => ?_⟩
 ·have bp : ¬ a = b := by
   rintro rfl
   simp at h
  rw [decide_eq_false bp]
  exact aQ
 ·have h' : a.length = b.length := by simp at h; omega
  have hl := ac6 a b ha h'
  rw [ac5 h'] at hl
  rintro y rfl
  refine ⟨bn, fun h => ⟨.bg (hl.1 (by simpa using h)), ?_⟩, fun h => ⟨.bg (hl.2 (by simpa using h)), ?_⟩⟩
  ·rw [h]; exact aQ
  ·rw [h]; exact aQ
def wx (t : Tb) (nm : List UInt8) (i : Int) : St := ⟨ai 22 [(1, .str nm), (2, .ptr 0 0), (5, .int .i64 i)], [some (aq t, fO)], []⟩
def zu : Ex -> Kp := fun ex => match ex with
 | .normal => { keep := [1, 2, 5] }
 | .ret => { keep := [4] }
 | _ => { keep := [] }
theorem Pf (t : Tb) (nm : List UInt8) (i : Int) : bx lj 0 zu (lp Tryz.prog oE 0) (wx t nm i) = (
 let q := List.getD (ae ba (ah ba t.aw)) i.toNat (bt.mk [] (0 : Int) (0 : Int) (0 : Int) (0 : Int) (0 : Int) [] false);
 let q1 := (↑t.aw.length : Int); bif decide (i < q1) then .ag [0 <= i /\ i < q1, List.take 8 (List.drop (i.toNat * 8) (ah ba t.aw)) = (ba q)] (bif q.name == nm then .done (Ex.ret, St.mk (ai 22 [(4, aa i)]) [] []) else
  .done (Ex.normal, St.mk (ai 22 [(1, .str nm), (2, .ptr 0 0), (5, aa (IntKind.i64.wrap (i + 1)))]) [some ((aq t), 44)] [])) else .done (Ex.exit 0, St.mk (ai 22 []) [] []) : T _) := by kernel_rfl
theorem Ph (t : Tb) (nm : List UInt8) (h : t.aw.length <= 1048576) :
  (bf t nm < 0 -> a8 Tryz.prog 0 (lp Tryz.prog oE 0) (wx t nm 0) (.exit 0) ⟨ai 22 [], [], []⟩) /\
  (0 <= bf t nm -> a8 Tryz.prog 0 (lp Tryz.prog oE 0) (wx t nm 0) .ret ⟨ai 22 [(4, .int .i64 (bf t nm))], [], []⟩) := by
 refine lA (E := lj) (nf := zu) (st := fun i => wx t nm (i : Nat)) (sr := fun j => ⟨ai 22 [(4, .int .i64 j)], [], []⟩) (fun c : bt => c.name == nm) t.aw .zero follows named (by simp) (by simp) (fun i => Pf t nm (i : Nat)) (fun i hi => ?_) ?_ t.aw.length 0 (by simp)
 ·have aL := cR.at t.aw .zero i 8 hi rfl
  simp only [az, T.WP, All, aB, aC, aA, aD, aE, aF, Int.toNat_natCast, cR.ae, bE (show i < 9223372036854775807 by omega)]
  refine ⟨fun _ => ⟨⟨aK, aL⟩, fun h => ?_, fun h => ?_⟩, fun h => by omega⟩
  ·change (t.aw.getD i .zero).name = nm at h
   rw [show ((t.aw.getD i .zero).name == nm) = true from by simpa using h]; rfl
  ·change ¬ (t.aw.getD i .zero).name = nm at h
   rw [show ((t.aw.getD i .zero).name == nm) = false from by simpa using h]; rfl
 ·simp only [az, T.WP, All, aB, aC, aA, aD, aE, aF]
  exact ⟨fun h => by omega, fun _ => trivial⟩
noncomputable def UB : Nat -> St -> Option bT := fun id s => match id, s.tm.get 1, s.hp with
 | 0, .str nm, some ([.str tn, .dsl _ _ cc, .dsl _ _ uu, .bool r], _) :: _ => some ⟨bf (bw tn cc uu r) nm, fun y => .two { keep := [1, 2, 5] } (wx (bw tn cc uu r) nm 0) (decide (y < 0)) (.exit 0) ⟨ai 22 [], [], []⟩ .ret ⟨ai 22 [(4, .int .i64 y)], [], []⟩⟩
 | _, _, _ => none
noncomputable def xo : Env := { P := Tryz.prog, vw := fv, res := fun _ _ _ => none, ls := UB }
theorem Pg (t : Tb) (nm : List UInt8) : fnT xo 0 oE [.agg (aq t), .str nm] [] = (
 let q := bw t.name (ah ba t.aw) (ah aN t.uniq) t.root;
 let q1 := ai 22 [(1, .str nm), (2, .ptr 0 0), (5, aa 0)];
 let q2 : Hp := [some ((aq q), 44)]; .bind (bf q nm) fun y0 => .ag [St.mk q1 [some ((aq t), 44)] [] = St.mk q1 q2 []] (bif decide (y0 < 0) then .ag [aV (Env.P xo) 0 (blk Tryz.prog oE 0) (St.mk q1 q2 []) (Ex.exit 0)
  (St.mk (ai 22 []) [] [])] (.done (aj.mk (aa (-1 : Int)) [] [])) else .ag [aV (Env.P xo) 0 (blk Tryz.prog oE 0) (St.mk q1 q2 []) Ex.ret (St.mk (ai 22 [(4, aa y0)]) [] [])] (.done (aj.mk (aa y0) [] []))) : T _) := (T.force_eq _).symm.trans (by kernel_rfl)
theorem Pj {t : Tb} {nm : List UInt8} (h : bf t nm < 0) : bf t nm = -1 := by
 unfold bf at *
 rcases jN (fun c : bt => c.name == nm) t.aw 0 with h2 | h2 <;> omega
theorem ou (t : Tb) (nm : List UInt8) (h : t.aw.length <= 1048576) : ao Tryz.prog oE [.agg (aq t), .str nm] [] ⟨.int .i64 (bf t nm), [], []⟩ := by
 refine bh (E := xo) follows named (Pg t nm) (by simp) ?_
 simp only [az, T.WP, All, aB, aC, aA, cm]
 have hl := Ph t nm h
 rintro y rfl
 refine ⟨bn, fun h => ⟨.bg (hl.1 h), ?_⟩, fun h => ⟨.bg (hl.2 af), ?_⟩⟩
 ·rw [Pj h]; exact aQ
 ·exact aQ
def wC (S : aS) (nm : List UInt8) (i : Int) : St := ⟨ai 22 [(1, .str nm), (2, .ptr 0 0), (5, .int .i64 i)], [some ([ab aq S], 25)], []⟩
theorem Qo (S : aS) (nm : List UInt8) (i : Int) : bx lj 0 zu (lp Tryz.prog nd 0) (wC S nm i) = (
 let q := List.getD (ae aq (ah aq S)) i.toNat (Tb.mk [] [] [] false); bif decide (i < (↑S.length : Int)) then .ag [0 <= i /\ i < (↑S.length : Int), List.take 4 (List.drop (i.toNat * 4) (ah aq S)) = (aq q)] (bif q.name ==
  nm then .done (Ex.ret, St.mk (ai 22 [(4, aa i)]) [] []) else .done (Ex.normal, St.mk (ai 22 [(1, .str nm), (2, .ptr 0 0), (5, aa (IntKind.i64.wrap (i + 1)))]) [some ([ab aq S], 25)] [])) else .done (Ex.exit 0, St.mk (ai 22
  []) [] []) : T _) := by kernel_rfl
theorem Qq (S : aS) (nm : List UInt8) (h : S.length <= 1048576) :
  (cV S nm < 0 -> a8 Tryz.prog 0 (lp Tryz.prog nd 0) (wC S nm 0) (.exit 0) ⟨ai 22 [], [], []⟩) /\
  (0 <= cV S nm -> a8 Tryz.prog 0 (lp Tryz.prog nd 0) (wC S nm 0) .ret ⟨ai 22 [(4, .int .i64 (cV S nm))], [], []⟩) := by
 refine lA (E := lj) (nf := zu) (st := fun i => wC S nm (i : Nat)) (sr := fun j => ⟨ai 22 [(4, .int .i64 j)], [], []⟩) (fun c : Tb => c.name == nm) S .zero follows named (by simp) (by simp) (fun i => Qo S nm (i : Nat)) (fun i hi => ?_) ?_ S.length 0 (by simp)
 ·have aL := bJ.at S .zero i 4 hi rfl
  simp only [az, T.WP, All, aB, aC, aA, aD, aE, aF, Int.toNat_natCast, bJ.ae, bE (show i < 9223372036854775807 by omega)]
  refine ⟨fun _ => ⟨⟨aK, aL⟩, fun h => ?_, fun h => ?_⟩, fun h => by omega⟩
  ·change (S.getD i .zero).name = nm at h
   rw [show ((S.getD i .zero).name == nm) = true from by simpa using h]; rfl
  ·change ¬ (S.getD i .zero).name = nm at h
   rw [show ((S.getD i .zero).name == nm) = false from by simpa using h]; rfl
 ·simp only [az, T.WP, All, aB, aC, aA, aD, aE, aF]
  exact ⟨fun h => by omega, fun _ => trivial⟩
noncomputable def UG : Nat -> St -> Option bT := fun id s => match id, s.tm.get 1, s.hp with
 | 0, .str nm, some ([.dsl _ _ cs], _) :: _ => some ⟨cV (ae aq cs) nm, fun y => .two { keep := [1, 2, 5] } (wC (ae aq cs) nm 0) (decide (y < 0)) (.exit 0) ⟨ai 22 [], [], []⟩ .ret ⟨ai 22 [(4, .int .i64 y)], [], []⟩⟩
 | _, _, _ => none
noncomputable def xv : Env := { P := Tryz.prog, vw := fv, res := fun _ _ _ => none, ls := UG }
theorem Qp (S : aS) (nm : List UInt8) : fnT xv 0 nd [.agg [ab aq S], .str nm] [] = (
 let q := ai 22 [(1, .str nm), (2, .ptr 0 0), (5, aa 0)];
 let q2 := ae aq (ah aq S);
 let q1 : Hp := [some ([ab aq q2], 25)]; .bind (cV q2 nm) fun y0 => .ag [St.mk q [some ([ab aq S], 25)] [] = St.mk q q1 []] (bif decide (y0 < 0) then .ag [aV (Env.P xv) 0 (blk Tryz.prog nd 0) (St.mk q q1 [])
  (Ex.exit 0) (St.mk (ai 22 []) [] [])] (.done (aj.mk (aa (-1 : Int)) [] [])) else .ag [aV (Env.P xv) 0 (blk Tryz.prog nd 0) (St.mk q q1 []) Ex.ret (St.mk (ai 22 [(4, aa y0)]) [] [])] (.done (aj.mk (aa y0) [] []))) : T _) := (T.force_eq _).symm.trans (by kernel_rfl)
theorem ag0 {S : aS} {nm : List UInt8} (h : cV S nm < 0) : cV S nm = -1 := by
 unfold cV at *
 rcases jN (fun c : Tb => c.name == nm) S 0 with h2 | h2 <;> omega
theorem yv (S : aS) (nm : List UInt8) (h : S.length <= 1048576) : ao Tryz.prog nd [.agg [ab aq S], .str nm] [] ⟨.int .i64 (cV S nm), [], []⟩ := by
 refine bh (E := xv) follows named (Qp S nm) (by simp) ?_
 simp only [az, T.WP, All, aB, aC, aA, bJ.ae]
 have hl := Qq S nm h
 rintro y rfl
 refine ⟨bn, fun h => ⟨.bg (hl.1 h), ?_⟩, fun h => ⟨.bg (hl.2 af), ?_⟩⟩
 ·rw [ag0 h]; exact aQ
 ·exact aQ
noncomputable def LX : cP := fun f vs hp => match vs, hp with
 | [.int _ n, .int _ lo, .int _ hi], [] => bif Nat.beq f mm then some ⟨bz n lo hi, fun y => ⟨.bool y, [], []⟩⟩ else none
 | _, _ => none
noncomputable def AQ : Env := { P := Tryz.prog, vw := fv, res := LX }
def wE (c : bt) (d : aU) (i : Int) : St := ⟨ai 48 [(1, ab ak d), (2, .ptr 0 0), (5, .int .i64 i)], [some (ba c, xc)], []⟩
def J8 : Ex -> Kp := fun ex => match ex with
 | .normal => { keep := [1, 2, 5] }
 | .ret => { keep := [4] }
 | _ => { keep := [] }
theorem QS (c : bt) (d : aU) (i : Int) : bx AQ 0 J8 (lp Tryz.prog ng 0) (wE c d i) = (
 let q := List.getD (ae ak (ah ak d)) i.toNat (At.mk (0 : Int) (0 : Int) []);
 let q1 := ai 48 [(1, ab ak d), (2, .ptr 0 0), (5, aa (IntKind.i64.wrap (i + 1)))]; bif decide (i < (↑d.length : Int)) then bif c.kind == 1 then .ag [0 <= i /\ i < (↑d.length : Int), List.take 3 (List.drop (i.toNat * 3) (ah ak
  d)) = ak q] (.bind (bz q.n c.low c.high) fun y0 => .ag [ao (Env.P AQ) 51 [aa q.n, aa c.low, aa c.high] [] (aj.mk (.bool y0) [] [])] (bif !y0 then .done (Ex.ret, St.mk (ai 48 [(4, aa 4)]) [] []) else .done (Ex.normal,
  St.mk q1 [some ((ba c), 85)] []))) else .done (Ex.normal, St.mk q1 [some ((ba c), 85)] []) else .done (Ex.exit 0, St.mk (ai 48 []) [] []) : T _) := by kernel_rfl
def oT (c : bt) (d : aU) (i : Nat) : Bool := !(c.kind == 1) || bz (d.getD i ⟨0, 0, []⟩).n c.low c.high
theorem Ia (c : bt) (d : aU) : allN (oT c d) d.length 0 = !(c.kind == 1 && d.any (fun a => !bz a.n c.low c.high)) := by
 have := om (fun a : At => !(c.kind == 1) || bz a.n c.low c.high) ⟨0, 0, []⟩ d
 show allN (fun i => !(c.kind == 1) || bz (d.getD i ⟨0, 0, []⟩).n c.low c.high) d.length 0 = _
 rw [this]
 cases c.kind == 1
 ·simp
 ·simp [List.all_eq_not_any_not]
theorem nJ (n lo hi : Int) : ao Tryz.prog mm [.int .i64 n, .int .i64 lo, .int .i64 hi] [] ⟨.bool (bz n lo hi), [], []⟩ := ja n lo hi
theorem QU (c : bt) (d : aU) (hd : d.length <= 1048576) :
  (allN (oT c d) d.length 0 = true -> a8 Tryz.prog 0 (lp Tryz.prog ng 0) (wE c d 0) (.exit 0) ⟨ai 48 [], [], []⟩) /\
  (allN (oT c d) d.length 0 = false -> a8 Tryz.prog 0 (lp Tryz.prog ng 0) (wE c d 0) .ret ⟨ai 48 [(4, .int .i64 4)], [], []⟩) := by
 refine ij (E := AQ) (nf := J8) (st := fun i => wE c d (i : Nat)) (n := d.length) (oT c d) follows named (by simp) (by simp) (fun i => QS c d (i : Nat)) (fun i hi => ?_) ?_ d.length 0 (by simp)
 ·have aL := bq.at d ⟨0, 0, []⟩ i 3 hi rfl
  unfold oT
  simp only [az, T.WP, All, aB, aC, aA, aD, aE, aF, Int.toNat_natCast, bq.ae, bE (show i < 9223372036854775807 by omega)]
  refine ⟨fun _ => ⟨fun hk => ⟨⟨aK, aL⟩, ?_⟩, fun hk => ?_⟩, fun h => by omega⟩
  ·rintro y rfl
   rw [show (c.kind == 1) = true by simpa using hk, Bool.not_true, Bool.false_or]
   refine ⟨nJ _ _ _, fun h => ?_, fun h => ?_⟩
   ·rw [Bool.not_eq_true'] at h; rw [h]; rfl
   ·rw [Bool.not_eq_false'] at h; rw [h]; rfl
  ·rw [show (c.kind == 1) = false by simpa using hk, Bool.not_false, Bool.true_or]; rfl
 ·simp only [az, T.WP, All, aB, aC, aA, aD, aE, aF]
  exact ⟨fun h => by omega, fun _ => trivial⟩
noncomputable def UI : Nat -> St -> Option bT := fun id s => match id, s.tm.get 1, s.hp with
 | 0, .dsl _ _ cs, some ([.str nm, .int _ a, .int _ b, .int _ e, .int _ f, .int _ g, .str r, .bool q], _) :: _ => some ⟨allN (oT ⟨nm, a, b, e, f, g, r, q⟩ (ae ak cs)) (ae ak cs).length 0, fun y => .two { keep := [1, 2, 5] } (wE ⟨nm, a, b, e, f, g, r, q⟩ (ae ak cs) 0) y (.exit 0) ⟨ai 48 [], [], []⟩ .ret ⟨ai 48 [(4, .int .i64 4)], [], []⟩⟩
 | _, _, _ => none
noncomputable def oa : Env := { P := Tryz.prog, vw := fv, res := LX, ls := UI }
theorem QT (c : bt) (d : aU) : fnT oa 0 ng [.agg (ba c), ab ak d] [] = (
 let q := bt.mk c.name c.kind c.min c.max c.low c.high c.ref c.eR;
 let q2 := ae ak (ah ak d);
 let q1 := ai 48 [(1, ab ak q2), (2, .ptr 0 0), (5, aa 0)];
 let q3 : List Prop := [St.mk (ai 48 [(1, ab ak d), (2, .ptr 0 0), (5, aa 0)]) [some ((ba c), 85)] [] = St.mk q1 [some ((ba q), 85)] []];
 let q4 := St.mk q1 [some ((ba q), 85)] [];
 let q5 := (↑d.length : Int);
 let q6 := blk Tryz.prog ng 0;
 let q7 : List V := [aa q5, aa c.min, aa c.max];
 let q8 := List.getD q2 0 (At.mk (0 : Int) (0 : Int) []);
 let q9 := St.mk (ai 48 [(4, aa 4)]) [] [];
 let br := allN (oT q q2) q2.length 0;
 let bD := bz q5 c.min c.max; bif decide (q5 > 0) then .ag [(0 : Int) <= 0 /\ (0 : Int) < q5, List.take 3 (List.drop 0 (ah ak d)) = ak q8] (bif q8.kind != c.kind then .done (aj.mk (aa 9) [] []) else .bind bD fun y0 => .ag
  [ao (Env.P oa) 51 q7 [] (aj.mk (.bool y0) [] [])] (bif !y0 then .done (aj.mk (aa 6) [] []) else .bind br fun y1 => .ag q3 (bif y1 then .ag [aV (Env.P oa) 0 q6 q4 (Ex.exit 0) (St.mk (ai 48 []) [] [])] (.done (aj.mk
  (aa 0) [] [])) else .ag [aV (Env.P oa) 0 q6 q4 Ex.ret q9] (.done (aj.mk (aa 4) [] []))))) else .bind bD fun y2 => .ag [ao (Env.P oa) 51 q7 [] (aj.mk (.bool y2) [] [])] (bif !y2 then .done (aj.mk (aa 6) [] []) else
  .bind br fun y3 => .ag q3 (bif y3 then .ag [aV (Env.P oa) 0 q6 q4 (Ex.exit 0) (St.mk (ai 48 []) [] [])] (.done (aj.mk (aa 0) [] [])) else .ag [aV (Env.P oa) 0 q6 q4 Ex.ret q9] (.done (aj.mk (aa 4) [] [])))) : T _) := by kernel_rfl
theorem Cr (c : bt) (d : aU) (hd : d.length <= 1048576) : ao Tryz.prog ng [.agg (ba c), ab ak d] [] ⟨.int .i64 (cX c d), [], []⟩ := by
 refine bh (E := oa) follows named (QT c d) (by simp) ?_
 simp only [az, T.WP, All, aB, aC, aA, bq.ae]
 have hl := QU c d hd
 rw [Ia] at hl
 have jO := Ia c d
 refine ⟨fun hp => ?_, fun hp => ?_⟩
 have aL := bq.at d ⟨0, 0, []⟩ 0 3 af rfl
 rw [Nat.zero_mul] at aL
 refine ⟨⟨aK, aL⟩, fun hk => ?_, fun hk => ?_⟩
 ·have hb : (decide (0 < d.length) && !((d.getD 0 .zero).kind == c.kind)) = true := by
   rw [decide_eq_true (by omega : 0 < d.length), Bool.true_and]; exact hk
  unfold cX
  rw [hb]
  exact aQ
 all_goals
  have hb : (decide (0 < d.length) && !((d.getD 0 .zero).kind == c.kind)) = false := by
   first
   | (rw [decide_eq_false (by omega : ¬ 0 < d.length)]; rfl)
   | (rw [decide_eq_true (by omega : 0 < d.length), Bool.true_and]; exact hk)
  unfold cX
  rw [hb]
  rintro y rfl
  refine ⟨nJ _ _ _, fun h => ?_, fun h => ?_⟩
  ·rw [h]; exact aQ
  ·rw [h]
   rintro y rfl
   have Rl : allN (oT ⟨c.name, c.kind, c.min, c.max, c.low, c.high, c.ref, c.eR⟩ d) d.length 0 = _ := jO
   rw [Rl]
   refine ⟨bn, fun h2 => ⟨.bg (hl.1 h2), ?_⟩, fun h2 => ⟨.bg (hl.2 h2), ?_⟩⟩
   ·rw [Bool.not_eq_true'] at h2
    rw [h2]; exact aQ
   ·rw [Bool.not_eq_false'] at h2
    rw [h2]; exact aQ
def bU (r : Rw) : List V := [.int .i64 r.id, .osl jD r.cells.length false (ah a7 r.cells)]
def m7 (rows : List Rw) : List V := [.osl dy rows.length true (ah bU rows)]
def ep : TypeId -> Nat -> Option TypeId := fun t k => bif Nat.beq t dy then (bif Nat.beq (k % 2) 1 then some jD else none) else bif Nat.beq t dZ then some dy else bif Nat.beq t cO then (bif Nat.beq (k % 2) 0 then some dZ else none) else none
def L1 : cP := fun f vs hp => match vs, hp with
 | [.agg [.int _ d, .dsl n _ cs]], [] => bif Nat.beq f kN then some ⟨(), fun _ => ⟨.agg [.int .i64 d, .sl 0 0 n false], [some ([.aJ cs], jD)], []⟩⟩ else none
 | _, _ => none
structure kf (x : aM) : Prop where
 n : x.ar.length <= 1048576
 t : ∀ rows ∈ x.ar, rows.length <= 1048576
 r : ∀ rows ∈ x.ar, ∀ r ∈ rows, ir r
theorem Hy {α : Type} {enc : α -> List V} {s : Nat} (h : ∀ x, (enc x).length = s) (l : List α) : (ah enc l).length = l.length * s := by
 induction l with
 | nil => simp [ah]
 | cons x l ih => rw [eu, List.length_append, h, ih, List.length_cons, Nat.succ_mul]; omega
theorem BR (l : List Rw) : (ah bU l).length = l.length * 2 := Hy (enc := bU) (s := 2) (fun _ => rfl) l
theorem Qj (l : List (List Rw)) : (ah m7 l).length = l.length * 1 := Hy (enc := m7) (s := 1) (fun _ => rfl) l
noncomputable def xG : Env := { P := Tryz.prog, vw := fv, res := L1 }
def pN (x : aM) (D : List (List Rw)) (l : List Rw) (i k : Int) : St := ⟨ai 48 [(1, .ptr 0 0), (2, .ptr 1 0), (3, .ptr 2 0), (4, .int .i64 i), (5, .sl 3 0 l.length false), (6, .int .i64 k)],
 [some (aP x, cO), some ([.osl dZ 0 false [], .int .i64 0], cO), some ([.osl dZ D.length true (ah m7 D), .int .i64 x.next], cO), some ([.cu (ah bU l)], dy)], []⟩
def Kf : Ex -> Kp := fun _ => { keep := [1, 2, 3, 4, 5, 6], pk := some ep }
theorem K9 (x : aM) (D : List (List Rw)) (l : List Rw) (i k : Int) : bx xG 0 Kf (lp Tryz.prog ew 2) (pN x D l i k) = (
 let q6 := ah aI x.ar;
 let q1 := List.getD (ae aI q6) i.toNat [];
 let q := List.getD (ae av (ah av q1)) k.toNat (Rw.mk (0 : Int) []);
 let q2 : List Prop := [0 <= i /\ i < (↑x.ar.length : Int), List.take 1 (List.drop (i.toNat * 1) q6) = [ab av q1]];
 let q3 : List V := [.osl 46 D.length true (ah m7 D), aa x.next];
 let q4 : List V := [aa q.id, ab a7 q.cells];
 let q5 : List V := [.osl 46 0 false [], aa 0];
 let q7 := q.cells.length;
 let q8 := ah a7 q.cells; .ag q2 (bif decide (k < (↑q1.length : Int)) then .ag q2 (.ag [0 <= k /\ k < (↑q1.length : Int), List.take 2 (List.drop (k.toNat * 2) (ah av q1)) = q4] (.bind PUnit.unit fun _ => .ag [ao (Env.P
  xG) 154 [.agg q4] [] (aj.mk (.agg [aa q.id, .sl 0 0 q7 false]) [some ([.aJ q8], 32)] [])] (.ag [0 = 0, List.length (ah bU l) = l.length * 2, l.length + 1 <= 9223372036854775807, (l.length + 1) * 32 <= 140737488355328]
  (.done (Ex.normal, St.mk (ai 48 [(1, .ptr 0 0), (2, .ptr 1 0), (3, .ptr 2 0), (4, aa i), (5, .sl 3 0 (l.length + 1) false), (6, aa (IntKind.i64.wrap (k + 1)))]) [some ((aP x), 29), some (q5, 29), some (q3, 29), some ([.cu
  (ah bU l ++ [aa q.id, .osl 32 q7 false q8])], 53)] []))))) else .done (Ex.exit 2, St.mk (ai 48 [(1, .ptr 0 0), (2, .ptr 1 0), (3, .ptr 2 0), (4, aa i), (5, .sl 3 0 l.length false), (6, aa k)]) [some ((aP x), 29), some
  (q5, 29), some (q3, 29), some ([.cu (ah bU l)], 53)] [])) : T _) := (T.force_eq _).symm.trans (by kernel_rfl)
theorem La {x : aM} (hx : kf x) (D : List (List Rw)) (i : Nat) (hi : i < x.ar.length) : ∀ (n k : Nat), k + n = (x.ar.getD i []).length ->
  a8 Tryz.prog 0 (lp Tryz.prog ew 2) (pN x D ((x.ar.getD i []).take k) i k) (.exit 2) (pN x D (x.ar.getD i []) i (x.ar.getD i []).length)
 | 0, k, hk => by
  have aL := bB.at x.ar [] i 1 hi rfl
  obtain rfl : k = (x.ar.getD i []).length := hk
  rw [List.take_length]
  refine bl (E := xG) follows named (K9 x D (x.ar.getD i []) i ((x.ar.getD i []).length : Nat)) ?_
  simp only [az, T.WP, All, aB, aC, aA, bB.ae, Int.toNat_natCast]
  exact ⟨⟨aK, aL⟩, fun h => by omega, fun _ => ⟨rfl, rfl⟩⟩
 | n + 1, k, hk => by
  have aL := bB.at x.ar [] i 1 hi rfl
  have hm := bP [] hi
  have ht := hx.t _ hm
  have ih := La hx D i hi n (k + 1) (by omega)
  generalize nE : x.ar.getD i [] = rows at *
  have cA := bN.at rows ⟨0, []⟩ k 2 (by omega) rfl
  have hr := hx.r _ hm _ (bP ⟨0, []⟩ (show k < rows.length by omega))
  have w1 : IntKind.i64.wrap ((k : Int) + 1) = ((k + 1 : Nat) : Int) := bE (by omega)
  have hl : (rows.take k).length = k := by rw [List.length_take]; omega
  refine bl (E := xG) follows named (K9 x D (rows.take k) i (k : Nat)) ?_
  simp only [az, T.WP, All, aB, aC, aA, w1, bB.ae, bN.ae, Int.toNat_natCast, nE, hl, BR]
  refine ⟨⟨aK, aL⟩, fun _ => ⟨⟨aK, aL⟩, ⟨aK, cA⟩, ?_⟩, fun h => by omega⟩
  rintro _ -
  refine ⟨Eh _ hr, aK, ?_⟩
  rw [j5 ⟨0, []⟩ (show k < rows.length by omega)] at ih
  simp only [pN, dU, bU, List.length_append, List.length_singleton, hl] at ih ⊢
  exact ih
def Fa (x : aM) (D : List (List Rw)) (i : Int) : St := ⟨ai 48 [(1, .ptr 0 0), (2, .ptr 1 0), (3, .ptr 2 0), (4, .int .i64 i)],
 [some (aP x, cO), some ([.osl dZ 0 false [], .int .i64 0], cO), some ([.osl dZ D.length true (ah m7 D), .int .i64 x.next], cO)], []⟩
def WK : Ex -> Kp := fun _ => { keep := [1, 2, 3, 4], pk := some ep }
noncomputable def U4 : Nat -> St -> Option bT := fun id s => match id, s.tm.get 4, s.hp with
 | 2, .int _ i, some ([.dsl _ _ cs, .int _ nx], _) :: _ => some ⟨(), fun _ => .one { keep := [1, 2, 3, 4, 5, 6], pk := some ep, ic := [5], wq := [3] }
   (pN ⟨ae aI cs, nx⟩ ((ae aI cs).take i.toNat) [] i 0) (.exit 2) (pN ⟨ae aI cs, nx⟩ ((ae aI cs).take i.toNat) ((ae aI cs).getD i.toNat []) i ((ae aI cs).getD i.toNat []).length)⟩
 | _, _, _ => none
noncomputable def AY : Env := { P := Tryz.prog, vw := fv, res := L1, ls := U4 }
theorem Yc (x : aM) (D : List (List Rw)) (i : Int) : bx AY 0 WK (lp Tryz.prog ew 0) (Fa x D i) = (
 let q := ae aI (ah aI x.ar);
 let q3 := List.take i.toNat q;
 let q6 := aM.mk q x.next;
 let q1 : List V := [.osl 46 q3.length true (ah m7 q3), aa q6.next];
 let q2 := ai 48 [(1, .ptr 0 0), (2, .ptr 1 0), (3, .ptr 2 0), (4, aa i), (5, .sl 3 0 0 false), (6, aa 0)];
 let q4 : List V := [.osl 46 0 false [], aa 0];
 let q5 := List.getD q i.toNat [];
 let q7 : Hp := [some ((aP q6), 29), some (q4, 29), some (q1, 29), some ([.cu []], 53)];
 let q8 : List V := [.osl 46 D.length true (ah m7 D), aa x.next];
 let q9 := q5.length; bif decide (i < (↑x.ar.length : Int)) then .bind PUnit.unit fun _ => .ag [St.mk q2 [some ((aP x), 29), some (q4, 29), some (q8, 29), some ([.cu []], 53)] [] = St.mk q2 q7 [], aV (Env.P AY) 0 (blk
  Tryz.prog ew 2) (St.mk q2 q7 []) (Ex.exit 2) (St.mk (ai 48 [(1, .ptr 0 0), (2, .ptr 1 0), (3, .ptr 2 0), (4, aa i), (5, .sl 3 0 q9 false), (6, aa (↑q9 : Int))]) [some ((aP q6), 29), some (q4, 29), some (q1, 29), some ([.cu
  (ah bU q5)], 53)] [])] (.ag [0 = 0, List.length (ah m7 q3) = q3.length * 1, q3.length + 1 <= 9223372036854775807, (q3.length + 1) * 24 <= 140737488355328] (.done (Ex.normal, St.mk (ai 48 [(1, .ptr 0 0), (2, .ptr 1 0),
  (3, .ptr 2 0), (4, aa (IntKind.i64.wrap (i + 1)))]) [some ((aP q6), 29), some (q4, 29), some ([.osl 46 (q3.length + 1) true (ah m7 q3 ++ [.osl 53 q9 true (ah bU q5)]), aa q6.next], 29)] []))) else .done (Ex.exit 0,
  St.mk (ai 48 [(1, .ptr 0 0), (2, .ptr 1 0), (3, .ptr 2 0), (4, aa i)]) [some ((aP x), 29), some (q4, 29), some (q8, 29)] []) : T _) := by kernel_rfl
abbrev pS : Nat := 25
noncomputable def wb : cP := fun f vs _ =>
 bif Nat.beq f mm then (match vs with | [.int _ n, .int _ lo, .int _ hi] => some ⟨bz n lo hi, fun y => ⟨.bool y, [], []⟩⟩ | _ => none) else
 bif Nat.beq f yg then (match vs with | [.bool b] => some ⟨b, fun y => ⟨.int .i64 (y.toNat : Nat), [], []⟩⟩ | _ => none) else
 bif Nat.beq f nh then (match vs with | [.dsl _ _ cs, .agg [.int _ k, .int _ n, .str t]] => some ⟨cd (ae ak cs) ⟨k, n, t⟩, fun y => ⟨.bool y, [], []⟩⟩ | _ => none) else
 bif Nat.beq f oO then (match vs with | [.dsl _ _ cs, .int _ k] => some ⟨ct (ae av cs) k, fun y => ⟨.int .i64 y, [], []⟩⟩ | _ => none) else
 bif Nat.beq f oP then (match vs with | [.dsl _ _ cs, .dsl _ _ ds] => some ⟨decide (ae ak cs = ae ak ds), fun y => ⟨.bool y, [], []⟩⟩ | _ => none) else
 bif Nat.beq f oE then (match vs with | [.agg [.str tn, .dsl _ _ cc, .dsl _ _ uu, .bool r], .str nm] => some ⟨bf (bw tn cc uu r) nm, fun y => ⟨.int .i64 y, [], []⟩⟩ | _ => none) else
 bif Nat.beq f nd then (match vs with | [.agg [.dsl _ _ cs], .str nm] => some ⟨cV (ae aq cs) nm, fun y => ⟨.int .i64 y, [], []⟩⟩ | _ => none) else
 bif Nat.beq f ng then (match vs with | [.agg [.str nm, .int _ a, .int _ b, .int _ e, .int _ g, .int _ h, .str r, .bool q], .dsl _ _ cs] => some ⟨cX ⟨nm, a, b, e, g, h, r, q⟩ (ae ak cs), fun y => ⟨.int .i64 y, [], []⟩⟩ | _ => none) else none
noncomputable def xq : Env := { P := Tryz.prog, vw := fv, res := wb }
structure er (S : aS) (x : aM) : Prop where
 s : kf x
 n : x.ar.length = S.length
 c : ∀ i, i < x.ar.length -> ∀ r ∈ x.ar.getD i [], r.cells.length = (S.getD i .zero).aw.length
 k : ∀ t ∈ S, t.aw.length <= 1048576 /\ t.uniq.length <= 1048576
theorem er.row {S : aS} {x : aM} (h : er S x) {i k : Nat} (hi : i < x.ar.length) (hk : k < (x.ar.getD i []).length) : ir (iM x i k) /\ (iM x i k).cells.length = (S.getD i .zero).aw.length :=
 ⟨h.s.r _ (bP [] hi) _ (bP _ hk), h.c i hi _ (bP _ hk)⟩
theorem er.um {S : aS} {x : aM} (h : er S x) {i : Nat} (hi : i < x.ar.length) : (x.ar.getD i []).length <= 1048576 := h.s.t _ (bP [] hi)
theorem er.cell {S : aS} {x : aM} (h : er S x) {i k c : Nat} (hi : i < x.ar.length) (hk : k < (x.ar.getD i []).length) (hc : c < (S.getD i .zero).aw.length) : (jj x i k c).length <= 1048576 :=
 (h.row hi hk).1.d _ (bP [] (by rw [(h.row hi hk).2]; exact hc))
theorem er.aG {S : aS} {x : aM} (h : er S x) {i : Nat} (hi : i < x.ar.length) : (S.getD i .zero).aw.length <= 1048576 /\ (S.getD i .zero).uniq.length <= 1048576 := h.k _ (bP _ (by rw [<- h.n]; exact hi))
theorem Ak {f : Nat -> Nat} {M : Nat} : ∀ (n i : Nat), (∀ j, i <= j -> j < i + n -> f j <= M) -> sumN f n i <= n * M
 | 0, _, _ => by simp [sumN]
 | n + 1, i, h => by
  have := Ak n (i + 1) (fun j h1 h2 => h j af af)
  have := h i af af
  rw [sumN, Nat.succ_mul]; omega
theorem M7 (f : Nat -> Nat) : ∀ (n i : Nat), sumN f (n + 1) i = sumN f n i + f (i + n)
 | 0, i => by simp [sumN]
 | n + 1, i => by
  rw [sumN, M7 f n (i + 1), sumN]
  rw [show i + 1 + n = i + (n + 1) by omega]; omega
section
variable {E : Env} {m : Nat} {nf : Ex -> Kp} {c : Code}
theorem Al {st : Nat -> Nat -> St} {n : Nat} (f : Nat -> Nat) (M a0 : Nat) {t : Nat -> Nat -> T (Ex × St)} {ex : Ex} {sx : Nat -> St}
  (hm : E.P.follows .mixedOrders = true) (hn : dA E.P) (hx : ex ≠ .normal) (e : ∀ i a, bx E m nf c (st i a) = t i a) (hM : ∀ i, i < n -> f i <= M)
  (h : ∀ i a, i < n -> a <= a0 + n * M -> (t i a).WP (· = (.normal, st (i + 1) (a + f i))))
  (he : ∀ a, (t n a).WP (· = (ex, sx a))) : ∀ (k i : Nat), i + k = n -> a8 E.P m c (st i (a0 + sumN f i 0)) ex (sx (a0 + sumN f n 0))
 | 0, i, hi => by
  obtain rfl : i = n := af
  exact .done (iN hm hn (e _ _) (he _)) hx
 | k + 1, i, hi => by
  have hle := Ak (f := f) (M := M) i 0 (fun j _ h2 => hM j af)
  have hmul : i * M <= n * M := Nat.mul_le_mul_right M af
  have h1 := h i (a0 + sumN f i 0) af af
  have ih := Al f M a0 hm hn hx e hM h he k (i + 1) af
  rw [M7, Nat.zero_add, <- Nat.add_assoc] at ih
  exact .step (iN hm hn (e _ _) h1) ih
end
abbrev ix : Nat := 138
def kP (S : aS) (x : aM) : Hp := [some ([ab aq S], pS), some (aP x, cO)]
def Af (S : aS) (x : aM) (t id a i c k : Int) : St := ⟨ai 84 [(2, .int .i64 t), (3, .int .i64 id), (4, .ptr 0 0), (5, .ptr 1 0), (9, .int .i64 a), (10, .int .i64 i), (11, .int .i64 c), (13, .int .i64 k)], kP S x, []⟩
def Ku : Ex -> Kp := fun ex => match ex with
 | .normal => { keep := [2, 3, 4, 5, 9, 10, 11, 13] }
 | _ => { keep := [2, 3, 4, 5, 9, 10, 11], perm := some ([0, 1], []) }
theorem ad4 (S : aS) (x : aM) (t id a i c k : Int) : bx xq 0 Ku (lp Tryz.prog ix 4) (Af S x t id a i c k) = (
 let q5 := ah aI x.ar;
 let q1 := List.getD (ae aI q5) i.toNat [];
 let q := List.getD (ae av (ah av q1)) k.toNat (Rw.mk (0 : Int) []);
 let q6 := ah a7 q.cells;
 let q2 := List.getD (ae a7 q6) c.toNat [];
 let q3 : List Prop := [0 <= i /\ i < (↑x.ar.length : Int), List.take 1 (List.drop (i.toNat * 1) q5) = [ab av q1]];
 let q4 : Hp := [some ([ab aq S], 25), some ((aP x), 29)]; .ag q3 (bif decide (k < (↑q1.length : Int)) then .ag q3 (.ag [0 <= k /\ k < (↑q1.length : Int), List.take 2 (List.drop (k.toNat * 2) (ah av q1)) = [aa q.id, ab
  a7 q.cells]] (.ag [0 <= c /\ c < (↑q.cells.length : Int), List.take 1 (List.drop (c.toNat * 1) q6) = [ab ak q2]] (.bind (cd (ae ak (ah ak q2)) (At.mk (4 : Int) id [])) fun y0 => .ag [ao (Env.P xq) 210 [ab
  ak q2, .agg [aa 4, aa id, .str []]] [] (aj.mk (.bool y0) [] [])] (.bind y0 fun y1 => .ag [ao (Env.P xq) 209 [.bool y0] [] (aj.mk (aa (↑(Bool.toNat y1) : Int)) [] [])] (.done (Ex.normal, St.mk (ai 84 [(2, aa t), (3, aa
  id), (4, .ptr 0 0), (5, .ptr 1 0), (9, aa (IntKind.i64.wrap (a + (↑(Bool.toNat y1) : Int)))), (10, aa i), (11, aa c), (13, aa (IntKind.i64.wrap (k + 1)))]) q4 [])))))) else .done (Ex.exit 4, St.mk (ai 84 [(2, aa t), (3, aa id),
  (4, .ptr 0 0), (5, .ptr 1 0), (9, aa a), (10, aa i), (11, aa c)]) q4 [])) : T _) := (T.force_eq _).symm.trans (by kernel_rfl)
def rF (S : aS) (x : aM) (t id a i c : Int) : St := ⟨ai 84 [(2, .int .i64 t), (3, .int .i64 id), (4, .ptr 0 0), (5, .ptr 1 0), (9, .int .i64 a), (10, .int .i64 i), (11, .int .i64 c)], kP S x, []⟩
def rE (S : aS) (x : aM) (t id a i : Int) : St := ⟨ai 84 [(2, .int .i64 t), (3, .int .i64 id), (4, .ptr 0 0), (5, .ptr 1 0), (9, .int .i64 a), (10, .int .i64 i)], kP S x, []⟩
theorem Fp (x : aM) (id : Int) (i c k : Nat) : l7 x id i c k <= 1 := by
 unfold l7
 cases cd (jj x i k c) ⟨4, id, []⟩ <;> decide
theorem ad1 {S : aS} {x : aM} (h : er S x) {i c : Nat} (hi : i < x.ar.length) (hc : c < (S.getD i .zero).aw.length) (t id : Int) (a0 : Nat) (ha : a0 <= 4611686018427387904) :
  a8 Tryz.prog 0 (lp Tryz.prog ix 4) (Af S x t id a0 i c 0) (.exit 4) (rF S x t id ((a0 + sumN (l7 x id i c) (x.ar.getD i []).length 0 : Nat) : Int) i c) := by
 have aL := bB.at x.ar [] i 1 hi rfl
 have hn := h.um hi
 have key := Al (E := xq) (m := 0) (nf := Ku) (c := lp Tryz.prog ix 4) (st := fun k a => Af S x t id (a : Nat) i c (k : Nat)) (n := (x.ar.getD i []).length) (l7 x id i c) 1 a0 (ex := .exit 4) (sx := fun a => rF S x t id (a : Nat) i c) follows named (by simp) (fun k a => ad4 S x t id (a : Nat) i c (k : Nat)) (fun k _ => Fp x id i c k) (fun k a hk hb => ?_) (fun a => ?_) (x.ar.getD i []).length 0 (by simp)
 ·exact key
 ·have hr := h.row hi hk
  have bQ := h.cell hi hk hc
  have cA := bN.at (x.ar.getD i []) ⟨0, []⟩ k 2 hk rfl
  have mz := bV.at (iM x i k).cells [] c 1 (by rw [hr.2]; exact hc) rfl
  have bO : c < (iM x i k).cells.length := by rw [hr.2]; exact hc
  have fZ : IntKind.i64.wrap ((k : Int) + 1) = ((k + 1 : Nat) : Int) := bE af
  unfold iM at mz bO
  unfold Rw.zero at mz bO
  simp only [az, T.WP, All, aB, aC, aA, Int.toNat_natCast, bB.ae, bN.ae, bV.ae, bq.ae, fZ]
  refine ⟨⟨aK, aL⟩, fun _ => ⟨⟨aK, aL⟩, ⟨aK, cA⟩, ⟨aK, mz⟩, ?_⟩, fun h => af⟩
  rintro y e
  have e' : y = cd (jj x i k c) ⟨4, id, []⟩ := e
  refine ⟨by rw [e]; exact CK _ _ (Nat.le_trans bQ af), ?_⟩
  rintro z rfl
  refine ⟨x5 _, ?_⟩
  have hw : IntKind.i64.wrap ((a : Int) + (z.toNat : Nat)) = ((a + l7 x id i c k : Nat) : Int) := by
   have := Fp x id i c k
   unfold l7 at this ⊢
   rw [<- e'] at this ⊢
   rw [cQ af]; simp
  rw [hw]
  rfl
 ·simp only [az, T.WP, All, aB, aC, aA, Int.toNat_natCast, bB.ae]
  exact ⟨⟨aK, aL⟩, fun h => af, fun _ => rfl⟩
noncomputable def Vl : Nat -> St -> Option bT := fun id s => match id, s.tm.get 2, s.tm.get 3, s.tm.get 9, s.tm.get 10, s.tm.get 11, s.hp with
 | 4, .int _ t, .int _ w, .int _ a, .int _ i, .int _ c, some ([.dsl _ _ cs], _) :: some ([.dsl _ _ ts, .int _ nx], _) :: _ =>
  some ⟨a.toNat + sumN (l7 ⟨ae aI ts, nx⟩ w i.toNat c.toNat) ((ae aI ts).getD i.toNat []).length 0, fun y => .one { keep := [2, 3, 4, 5, 9, 10, 11, 13] } (Af (ae aq cs) ⟨ae aI ts, nx⟩ t w a i c 0) (.exit 4) (rF (ae aq cs) ⟨ae aI ts, nx⟩ t w (y : Nat) i c)⟩
 | 2, .int _ t, .int _ w, .int _ a, .int _ i, _, some ([.dsl _ _ cs], _) :: some ([.dsl _ _ ts, .int _ nx], _) :: _ =>
  some ⟨a.toNat + rM (ae aq cs) ⟨ae aI ts, nx⟩ ((ae aq cs).getD t.toNat .zero).name w i.toNat, fun y => .one { keep := [2, 3, 4, 5, 9, 10, 11] } (rF (ae aq cs) ⟨ae aI ts, nx⟩ t w a i 0) (.exit 2) (rE (ae aq cs) ⟨ae aI ts, nx⟩ t w (y : Nat) i)⟩
 | 0, .int _ t, .int _ w, _, _, _, some ([.dsl _ _ cs], _) :: some ([.dsl _ _ ts, .int _ nx], _) :: _ =>
  some ⟨eS (ae aq cs) ⟨ae aI ts, nx⟩ t.toNat w, fun y => .one { keep := [2, 3, 4, 5, 9, 10] } (rE (ae aq cs) ⟨ae aI ts, nx⟩ t w 0 0) (.exit 0) ⟨ai 84 [(9, .int .i64 (y : Nat))], [], []⟩⟩
 | _, _, _, _, _, _, _ => none
noncomputable def m3 : Env := { P := Tryz.prog, vw := fv, res := wb, ls := Vl }
def Kt : Ex -> Kp := fun ex => match ex with
 | .normal => { keep := [2, 3, 4, 5, 9, 10, 11] }
 | _ => { keep := [2, 3, 4, 5, 9, 10] }
def Ks : Ex -> Kp := fun ex => match ex with
 | .normal => { keep := [2, 3, 4, 5, 9, 10] }
 | _ => { keep := [9] }
theorem ad3 (S : aS) (x : aM) (t id a i c : Int) : bx m3 0 Kt (lp Tryz.prog ix 2) (rF S x t id a i c) = (
 let q8 := ae aq (ah aq S);
 let q2 := List.getD q8 i.toNat (Tb.mk [] [] [] false);
 let q := List.getD (ae ba (ah ba q2.aw)) c.toNat (bt.mk [] (0 : Int) (0 : Int) (0 : Int) (0 : Int) (0 : Int) [] false);
 let q7 := ae aI (ah aI x.ar);
 let q1 : Hp := [some ([ab aq q8], 25), some ((aP (aM.mk q7 x.next)), 29)];
 let q3 := ai 84 [(2, aa t), (3, aa id), (4, .ptr 0 0), (5, .ptr 1 0), (9, aa a), (10, aa i), (11, aa c), (13, aa 0)];
 let bD := IntKind.i64.wrap (c + 1);
 let q4 := ai 84 [(2, aa t), (3, aa id), (4, .ptr 0 0), (5, .ptr 1 0), (9, aa a), (10, aa i), (11, aa bD)];
 let q5 : Hp := [some ([ab aq S], 25), some ((aP x), 29)];
 let q6 : List Prop := [0 <= i /\ i < (↑S.length : Int), List.take 4 (List.drop (i.toNat * 4) (ah aq S)) = (aq q2)];
 let q9 := List.getD q8 t.toNat (Tb.mk [] [] [] false);
 let br := (↑q2.aw.length : Int); .ag q6 (bif decide (c < br) then .ag q6 (.ag [0 <= c /\ c < br, List.take 8 (List.drop (c.toNat * 8) (ah ba q2.aw)) = [.str q.name, aa q.kind, aa q.min, aa q.max, aa q.low, aa
  q.high, .str q.ref, .bool q.eR]] (bif !q.eR then .done (Ex.normal, St.mk q4 q5 []) else .ag [0 <= t /\ t < (↑S.length : Int), List.take 4 (List.drop (t.toNat * 4) (ah aq S)) = (aq q9)] (bif !q.ref == q9.name then .done
  (Ex.normal, St.mk q4 q5 []) else .bind (a.toNat + sumN (l7 (aM.mk q7 x.next) id i.toNat c.toNat) (List.length (List.getD q7 i.toNat [])) 0) fun y0 => .ag [St.mk q3 q5 [] = St.mk q3 q1 [], aV (Env.P m3) 0 (blk Tryz.prog
  ix 4) (St.mk q3 q1 []) (Ex.exit 4) (St.mk (ai 84 [(2, aa t), (3, aa id), (4, .ptr 0 0), (5, .ptr 1 0), (9, aa (↑y0 : Int)), (10, aa i), (11, aa c)]) q1 [])] (.done (Ex.normal, St.mk (ai 84 [(2, aa t), (3, aa id), (4,
  .ptr 0 0), (5, .ptr 1 0), (9, aa (↑y0 : Int)), (10, aa i), (11, aa bD)]) q1 []))))) else .done (Ex.exit 2, St.mk (ai 84 [(2, aa t), (3, aa id), (4, .ptr 0 0), (5, .ptr 1 0), (9, aa a), (10, aa i)]) q5 [])) : T _) := (T.force_eq _).symm.trans (by kernel_rfl)
theorem ad2 (S : aS) (x : aM) (t id a i : Int) : bx m3 0 Ks (lp Tryz.prog ix 0) (rE S x t id a i) = (
 let q3 := ae aq (ah aq S);
 let q2 := aM.mk (ae aI (ah aI x.ar)) x.next;
 let q : Hp := [some ([ab aq q3], 25), some ((aP q2), 29)];
 let q1 := ai 84 [(2, aa t), (3, aa id), (4, .ptr 0 0), (5, .ptr 1 0), (9, aa a), (10, aa i), (11, aa 0)]; bif decide (i < (↑x.ar.length : Int)) then .bind (a.toNat + rM q3 q2 (Tb.name (List.getD q3 t.toNat (Tb.mk [] [] []
  false))) id i.toNat) fun y0 => .ag [St.mk q1 [some ([ab aq S], 25), some ((aP x), 29)] [] = St.mk q1 q [], aV (Env.P m3) 0 (blk Tryz.prog ix 2) (St.mk q1 q []) (Ex.exit 2) (St.mk (ai 84 [(2, aa t), (3, aa id),
  (4, .ptr 0 0), (5, .ptr 1 0), (9, aa (↑y0 : Int)), (10, aa i)]) q [])] (.done (Ex.normal, St.mk (ai 84 [(2, aa t), (3, aa id), (4, .ptr 0 0), (5, .ptr 1 0), (9, aa (↑y0 : Int)), (10, aa (IntKind.i64.wrap (i + 1)))]) q [])) else
  .done (Ex.exit 0, St.mk (ai 84 [(9, aa a)]) [] []) : T _) := by kernel_rfl
theorem stT (S : aS) (x : aM) (t id : Int) : fnT m3 0 ix [.agg [ab aq S], .agg (aP x), .int .i64 t, .int .i64 id] [] = (
 let q := ai 84 [(2, aa t), (3, aa id), (4, .ptr 0 0), (5, .ptr 1 0), (9, aa 0), (10, aa 0)];
 let q3 := ae aq (ah aq S);
 let q2 := aM.mk (ae aI (ah aI x.ar)) x.next;
 let q1 : Hp := [some ([ab aq q3], 25), some ((aP q2), 29)]; .bind (eS q3 q2 t.toNat id) fun y0 => .ag [St.mk q [some ([ab aq S], 25), some ((aP x), 29)] [] = St.mk q q1 [], aV (Env.P m3) 0 (blk Tryz.prog
  ix 0) (St.mk q q1 []) (Ex.exit 0) (St.mk (ai 84 [(9, aa (↑y0 : Int))]) [] [])] (.done (aj.mk (aa (↑y0 : Int)) [] [])) : T _) := (T.force_eq _).symm.trans (by kernel_rfl)
theorem M5 {S : aS} {x : aM} (h : er S x) {i : Nat} (hi : i < x.ar.length) (nm : List UInt8) (id : Int) (c : Nat) : ui S x nm id i c <= 1048576 := by
 unfold ui
 cases (!(gg S i c).eR || (gg S i c).ref != nm)
 ·have := Ak (f := l7 x id i c) (M := 1) (x.ar.getD i []).length 0 (fun k _ _ => Fp x id i c k)
  have := h.um hi
  simp only [cond_false]; omega
 ·simp
theorem ae8 {S : aS} {x : aM} (h : er S x) {i : Nat} (hi : i < x.ar.length) (nm : List UInt8) (id : Int) : rM S x nm id i <= 1099511627776 := by
 have h1 := Ak (f := ui S x nm id i) (M := 1048576) (S.getD i .zero).aw.length 0 (fun c _ _ => M5 h hi nm id c)
 have h2 := (h.aG hi).1
 unfold rM; omega
theorem ad0 {S : aS} {x : aM} (h : er S x) {i : Nat} (hi : i < x.ar.length) (t id : Int) (ht : 0 <= t /\ t < S.length) (a0 : Nat) (ha : a0 <= 2305843009213693952) :
  a8 Tryz.prog 0 (lp Tryz.prog ix 2) (rF S x t id a0 i 0) (.exit 2) (rE S x t id ((a0 + rM S x (S.getD t.toNat .zero).name id i : Nat) : Int) i) := by
 have tt : i < S.length := by rw [<- h.n]; exact hi
 have dV := bJ.at S .zero i 4 tt rfl
 have Rd := bJ.at' S .zero t 4 ht rfl
 have hn := h.aG hi
 have key := Al (E := m3) (m := 0) (nf := Kt) (c := lp Tryz.prog ix 2) (st := fun c a => rF S x t id (a : Nat) i (c : Nat)) (n := (S.getD i .zero).aw.length) (ui S x (S.getD t.toNat .zero).name id i) 1048576 a0 (ex := .exit 2) (sx := fun a => rE S x t id (a : Nat) i) follows named (by simp) (fun c a => ad3 S x t id (a : Nat) i (c : Nat)) (fun c _ => M5 h hi _ id c) (fun c a hc hb => ?_) (fun a => ?_) (S.getD i .zero).aw.length 0 (by simp)
 ·exact key
 ·have nq := cR.at (S.getD i .zero).aw .zero c 8 hc rfl
  have fZ : IntKind.i64.wrap ((c : Int) + 1) = ((c + 1 : Nat) : Int) := bE af
  have hl := ad1 h hi hc t id a af
  have hC : ui S x (S.getD t.toNat .zero).name id i c = bif !(gg S i c).eR || (gg S i c).ref != (S.getD t.toNat .zero).name then 0 else sumN (l7 x id i c) (x.ar.getD i []).length 0 := rfl
  rw [hC]
  unfold gg
  simp only [Tb.zero, bt.zero] at *
  simp only [az, T.WP, All, aB, aC, aA, Int.toNat_natCast, bJ.ae, cR.ae, bB.ae, fZ]
  refine ⟨⟨aK, dV⟩, fun _ => ⟨⟨aK, dV⟩, ⟨aK, nq⟩, fun hs => ?_, fun hs => ⟨⟨aK, Rd⟩, fun hr => ?_, fun hr => ?_⟩⟩, fun h => af⟩
  ·rw [hs, Bool.true_or]; rfl
  ·rw [hs, Bool.false_or]; unfold bne; rw [hr]; rfl
  ·rw [hs, Bool.false_or]; unfold bne; rw [hr]
   rintro y rfl
   exact ⟨⟨bn, .bg hl⟩, rfl⟩
 ·simp only [Tb.zero] at *
  simp only [az, T.WP, All, aB, aC, aA, Int.toNat_natCast, bJ.ae]
  exact ⟨⟨aK, dV⟩, fun h => af, fun _ => rfl⟩
theorem ac9 {S : aS} {x : aM} (h : er S x) (t id : Int) (ht : 0 <= t /\ t < S.length) :
  a8 Tryz.prog 0 (lp Tryz.prog ix 0) (rE S x t id 0 0) (.exit 0) ⟨ai 84 [(9, .int .i64 (eS S x t.toNat id : Nat))], [], []⟩ := by
 have hn := h.s.n
 have key := Al (E := m3) (m := 0) (nf := Ks) (c := lp Tryz.prog ix 0) (st := fun i a => rE S x t id (a : Nat) (i : Nat)) (n := x.ar.length) (rM S x (S.getD t.toNat .zero).name id) 1099511627776 0 (ex := .exit 0) (sx := fun a => ⟨ai 84 [(9, .int .i64 (a : Nat))], [], []⟩) follows named (by simp) (fun i a => ad2 S x t id (a : Nat) (i : Nat)) (fun i hi => ae8 h hi _ id) (fun i a hi hb => ?_) (fun a => ?_) x.ar.length 0 (by simp)
 ·rw [Nat.zero_add, Nat.zero_add] at key
  exact key
 ·have fZ : IntKind.i64.wrap ((i : Int) + 1) = ((i + 1 : Nat) : Int) := bE af
  have hl := ad0 h hi t id ht a af
  simp only [az, T.WP, All, aB, aC, aA, Int.toNat_natCast, bJ.ae, bB.ae, fZ]
  refine ⟨fun _ => ?_, fun h => af⟩
  rintro y rfl
  exact ⟨⟨bn, .bg hl⟩, rfl⟩
 ·simp only [az, T.WP, All, aB, aC, aA]
  exact ⟨fun h => af, fun _ => trivial⟩
theorem M6 {S : aS} {x : aM} (h : er S x) (t id : Int) (ht : 0 <= t /\ t < S.length) : ao Tryz.prog ix [.agg [ab aq S], .agg (aP x), .int .i64 t, .int .i64 id] [] ⟨.int .i64 (eS S x t.toNat id : Nat), [], []⟩ := by
 have hl := ac9 h t id ht
 refine bh (E := m3) follows named (stT S x t id) (by simp) ?_
 simp only [T.WP, All, aA, bJ.ae, bB.ae]
 rintro y rfl
 exact ⟨⟨bn, .bg hl⟩, aQ⟩
abbrev fx : Nat := 145
def uJ (S : aS) : Prop := ∀ t ∈ S, ∀ c ∈ t.aw, c.kind = 4 -> 0 <= cV S c.ref
def pK : St := ⟨ai 86 [(4, .bool false)], [], []⟩
def wV (S : aS) (x : aM) (i c : Int) (th : List Rw) (k : Int) (d : aU) (n : Int) : St := ⟨ai 86 [(2, .ptr 0 0), (3, .ptr 1 0), (5, .int .i64 i), (6, .int .i64 c), (8, ab av th), (9, .int .i64 k), (10, ab ak d), (11, .int .i64 n)], kP S x, []⟩
def rC (S : aS) (x : aM) (i c : Int) (th : List Rw) (k : Int) : St := ⟨ai 86 [(2, .ptr 0 0), (3, .ptr 1 0), (5, .int .i64 i), (6, .int .i64 c), (8, ab av th), (9, .int .i64 k)], kP S x, []⟩
def rB (S : aS) (x : aM) (i c : Int) : St := ⟨ai 86 [(2, .ptr 0 0), (3, .ptr 1 0), (5, .int .i64 i), (6, .int .i64 c)], kP S x, []⟩
def rA (S : aS) (x : aM) (i : Int) : St := ⟨ai 86 [(2, .ptr 0 0), (3, .ptr 1 0), (5, .int .i64 i)], kP S x, []⟩
def Ko : Ex -> Kp := fun ex => match ex with
 | .normal => { keep := [2, 3, 5, 6, 8, 9, 10, 11] }
 | .ret => { keep := [4] }
 | _ => { keep := [2, 3, 5, 6, 8, 9] }
def Kn : Ex -> Kp := fun ex => match ex with
 | .normal => { keep := [2, 3, 5, 6, 8, 9] }
 | .ret => { keep := [4] }
 | _ => { keep := [2, 3, 5, 6] }
def Km : Ex -> Kp := fun ex => match ex with
 | .normal => { keep := [2, 3, 5, 6] }
 | .ret => { keep := [4] }
 | _ => { keep := [2, 3, 5] }
def Kl : Ex -> Kp := fun ex => match ex with
 | .normal => { keep := [2, 3, 5] }
 | .ret => { keep := [4] }
 | _ => { keep := [] }
noncomputable def Ve : Nat -> St -> Option bT := fun id s => match id, s.tm.get 5, s.tm.get 6, s.tm.get 8, s.tm.get 9, s.tm.get 10, s.hp with
 | 6, .int _ i, .int _ c, .dsl _ _ th, .int _ k, .dsl _ _ d, some ([.dsl _ _ cs], _) :: some ([.dsl _ _ ts, .int _ nx], _) :: _ =>
  some ⟨allN (pF (ae av th) (ae ak d)) (ae ak d).length 0, fun y => .two { keep := [2, 3, 5, 6, 8, 9, 10, 11] } (wV (ae aq cs) ⟨ae aI ts, nx⟩ i c (ae av th) k (ae ak d) 0) y (.exit 6) (rC (ae aq cs) ⟨ae aI ts, nx⟩ i c (ae av th) k) .ret pK⟩
 | 4, .int _ i, .int _ c, .dsl _ _ th, _, _, some ([.dsl _ _ cs], _) :: some ([.dsl _ _ ts, .int _ nx], _) :: _ =>
  some ⟨allN (pG (ae av th) ⟨ae aI ts, nx⟩ i.toNat c.toNat) ((ae aI ts).getD i.toNat []).length 0, fun y => .two { keep := [2, 3, 5, 6, 8, 9] } (rC (ae aq cs) ⟨ae aI ts, nx⟩ i c (ae av th) 0) y (.exit 4) (rB (ae aq cs) ⟨ae aI ts, nx⟩ i c) .ret pK⟩
 | 2, .int _ i, _, _, _, _, some ([.dsl _ _ cs], _) :: some ([.dsl _ _ ts, .int _ nx], _) :: _ =>
  some ⟨tS (ae aq cs) ⟨ae aI ts, nx⟩ i.toNat, fun y => .two { keep := [2, 3, 5, 6] } (rB (ae aq cs) ⟨ae aI ts, nx⟩ i 0) y (.exit 2) (rA (ae aq cs) ⟨ae aI ts, nx⟩ i) .ret pK⟩
 | 0, _, _, _, _, _, some ([.dsl _ _ cs], _) :: some ([.dsl _ _ ts, .int _ nx], _) :: _ =>
  some ⟨pH (ae aq cs) ⟨ae aI ts, nx⟩, fun y => .two { keep := [2, 3, 5] } (rA (ae aq cs) ⟨ae aI ts, nx⟩ 0) y (.exit 0) ⟨ai 86 [], [], []⟩ .ret pK⟩
 | _, _, _, _, _, _, _ => none
noncomputable def gd : Env := { P := Tryz.prog, vw := fv, res := wb, ls := Ve }
theorem Zs (S : aS) (x : aM) (i c : Int) (th : List Rw) (k : Int) (d : aU) (n : Int) : bx gd 0 Ko (lp Tryz.prog fx 6) (wV S x i c th k d n) = (
 let q := List.getD (ae ak (ah ak d)) n.toNat (At.mk (0 : Int) (0 : Int) []);
 let q1 : Hp := [some ([ab aq S], 25), some ((aP x), 29)]; bif decide (n < (↑d.length : Int)) then .ag [0 <= n /\ n < (↑d.length : Int), List.take 3 (List.drop (n.toNat * 3) (ah ak d)) = ak q] (.bind (ct (ae av
  (ah av th)) q.n) fun y0 => .ag [ao (Env.P gd) 140 [ab av th, aa q.n] [] (aj.mk (aa y0) [] [])] (bif decide (y0 < 0) then .done (Ex.ret, St.mk (ai 86 [(4, .bool false)]) [] []) else .done (Ex.normal, St.mk (ai 86
  [(2, .ptr 0 0), (3, .ptr 1 0), (5, aa i), (6, aa c), (8, ab av th), (9, aa k), (10, ab ak d), (11, aa (IntKind.i64.wrap (n + 1)))]) q1 []))) else .done (Ex.exit 6, St.mk (ai 86 [(2, .ptr 0 0), (3, .ptr 1 0), (5, aa i),
  (6, aa c), (8, ab av th), (9, aa k)]) q1 []) : T _) := by kernel_rfl
theorem Zr (S : aS) (x : aM) (i c : Int) (th : List Rw) (k : Int) : bx gd 0 Kn (lp Tryz.prog fx 4) (rC S x i c th k) = (
 let q7 := ah aI x.ar;
 let q3 := List.getD (ae aI q7) i.toNat [];
 let q9 := ah av q3;
 let q := List.getD (ae av q9) k.toNat (Rw.mk (0 : Int) []);
 let q6 := ae av (ah av th);
 let q4 := List.getD (ae a7 (ah a7 q.cells)) c.toNat [];
 let q1 := ai 86 [(2, .ptr 0 0), (3, .ptr 1 0), (5, aa i), (6, aa c), (8, ab av q6), (9, aa k), (10, ab ak (ae ak (ah ak q4))), (11, aa 0)];
 let q2 : Hp := [some ([ab aq (ae aq (ah aq S))], 25), some ((aP (aM.mk (ae aI q7) x.next)), 29)];
 let q5 : List Prop := [0 <= i /\ i < (↑x.ar.length : Int), List.take 1 (List.drop (i.toNat * 1) q7) = [ab av q3]];
 let q8 : Hp := [some ([ab aq S], 25), some ((aP x), 29)]; .ag q5 (bif decide (k < (↑q3.length : Int)) then .ag q5 (.ag [0 <= k /\ k < (↑q3.length : Int), List.take 2 (List.drop (k.toNat * 2) q9) = [aa q.id, ab a7
  q.cells]] (.ag [0 <= c /\ c < (↑q.cells.length : Int), List.take 1 (List.drop (c.toNat * 1) (ah a7 q.cells)) = [ab ak q4]] (.bind (allN (pF q6 (ae ak (ah ak (List.getD (ae a7 (ah a7 (Rw.cells
  (List.getD (ae av q9) k.toNat Rw.zero)))) c.toNat [])))) (List.length (ae ak (ah ak q4))) 0) fun y0 => .ag [St.mk (ai 86 [(2, .ptr 0 0), (3, .ptr 1 0), (5, aa i), (6, aa c), (8, ab av th), (9, aa k), (10, ab
  ak q4), (11, aa 0)]) q8 [] = St.mk q1 q2 []] (bif y0 then .ag [aV (Env.P gd) 0 (blk Tryz.prog fx 6) (St.mk q1 q2 []) (Ex.exit 6) (St.mk (ai 86 [(2, .ptr 0 0), (3, .ptr 1 0), (5, aa i), (6, aa c), (8, ab av q6),
  (9, aa k)]) q2 [])] (.done (Ex.normal, St.mk (ai 86 [(2, .ptr 0 0), (3, .ptr 1 0), (5, aa i), (6, aa c), (8, ab av q6), (9, aa (IntKind.i64.wrap (k + 1)))]) q2 [])) else .ag [aV (Env.P gd) 0 (blk Tryz.prog fx 6)
  (St.mk q1 q2 []) Ex.ret (St.mk (ai 86 [(4, .bool false)]) [] [])] (.done (Ex.ret, St.mk (ai 86 [(4, .bool false)]) [] [])))))) else .done (Ex.exit 4, St.mk (ai 86 [(2, .ptr 0 0), (3, .ptr 1 0), (5, aa i), (6, aa c)]) q8 [])) : T _) := (T.force_eq _).symm.trans (by kernel_rfl)
theorem Zq (S : aS) (x : aM) (i c : Int) : bx gd 0 Km (lp Tryz.prog fx 2) (rB S x i c) = (
 let q7 := ae aq (ah aq S);
 let q2 := List.getD q7 i.toNat (Tb.mk [] [] [] false);
 let q := List.getD (ae ba (ah ba q2.aw)) c.toNat (bt.mk [] (0 : Int) (0 : Int) (0 : Int) (0 : Int) (0 : Int) [] false);
 let q3 := ae aI (ah aI x.ar);
 let q1 : Hp := [some ([ab aq q7], 25), some ((aP (aM.mk q3 x.next)), 29)];
 let q4 := ai 86 [(2, .ptr 0 0), (3, .ptr 1 0), (5, aa i), (6, aa (IntKind.i64.wrap (c + 1)))];
 let q5 : Hp := [some ([ab aq S], 25), some ((aP x), 29)];
 let q6 : List Prop := [0 <= i /\ i < (↑S.length : Int), List.take 4 (List.drop (i.toNat * 4) (ah aq S)) = (aq q2)];
 let q8 := (↑q2.aw.length : Int);
 let q9 := ai 86 [(4, .bool false)]; .ag q6 (bif decide (c < q8) then .ag q6 (.ag [0 <= c /\ c < q8, List.take 8 (List.drop (c.toNat * 8) (ah ba q2.aw)) = ba q] (bif q.kind != 4 then .done (Ex.normal, St.mk q4 q5 [])
  else .bind (cV q7 q.ref) fun y0 =>
 let bD := List.getD q3 y0.toNat [];
 let bL := ae av (ah av bD);
 let br := ai 86 [(2, .ptr 0 0), (3, .ptr 1 0), (5, aa i), (6, aa c), (8, ab av bL), (9, aa 0)]; .ag [ao (Env.P gd) 113 [.agg [ab aq S], .str q.ref] [] (aj.mk (aa y0) [] [])] (.ag [0 <= y0 /\ y0 < (↑x.ar.length :
  Int), List.take 1 (List.drop (y0.toNat * 1) (ah aI x.ar)) = [ab av bD]] (.bind (allN (pG bL (aM.mk q3 x.next) i.toNat c.toNat) (List.length (List.getD q3 i.toNat [])) 0) fun y1 => .ag [St.mk (ai 86 [(2, .ptr 0 0),
  (3, .ptr 1 0), (5, aa i), (6, aa c), (8, ab av bD), (9, aa 0)]) q5 [] = St.mk br q1 []] (bif y1 then .ag [aV (Env.P gd) 0 (blk Tryz.prog fx 4) (St.mk br q1 []) (Ex.exit 4) (St.mk (ai 86 [(2, .ptr 0 0), (3, .ptr 1
  0), (5, aa i), (6, aa c)]) q1 [])] (.done (Ex.normal, St.mk q4 q1 [])) else .ag [aV (Env.P gd) 0 (blk Tryz.prog fx 4) (St.mk br q1 []) Ex.ret (St.mk q9 [] [])] (.done (Ex.ret, St.mk q9 [] []))))))) else .done (Ex.exit 2,
  St.mk (ai 86 [(2, .ptr 0 0), (3, .ptr 1 0), (5, aa i)]) q5 [])) : T _) := (T.force_eq _).symm.trans (by kernel_rfl)
theorem Zp (S : aS) (x : aM) (i : Int) : bx gd 0 Kl (lp Tryz.prog fx 0) (rA S x i) = (
 let q4 := ae aq (ah aq S);
 let q2 := aM.mk (ae aI (ah aI x.ar)) x.next;
 let q : Hp := [some ([ab aq q4], 25), some ((aP q2), 29)];
 let q1 := ai 86 [(2, .ptr 0 0), (3, .ptr 1 0), (5, aa i), (6, aa 0)];
 let q3 := ai 86 [(4, .bool false)]; bif decide (i < (↑x.ar.length : Int)) then .bind (tS q4 q2 i.toNat) fun y0 => .ag [St.mk q1 [some ([ab aq S], 25), some ((aP x), 29)] [] = St.mk q1 q []] (bif y0 then .ag [aV
  (Env.P gd) 0 (blk Tryz.prog fx 2) (St.mk q1 q []) (Ex.exit 2) (St.mk (ai 86 [(2, .ptr 0 0), (3, .ptr 1 0), (5, aa i)]) q [])] (.done (Ex.normal, St.mk (ai 86 [(2, .ptr 0 0), (3, .ptr 1 0), (5, aa (IntKind.i64.wrap (i + 1)))])
  q [])) else .ag [aV (Env.P gd) 0 (blk Tryz.prog fx 2) (St.mk q1 q []) Ex.ret (St.mk q3 [] [])] (.done (Ex.ret, St.mk q3 [] []))) else .done (Ex.exit 0, St.mk (ai 86 []) [] []) : T _) := by kernel_rfl
theorem Zt (S : aS) (x : aM) : fnT gd 0 fx [.agg [ab aq S], .agg (aP x)] [] = (
 let q3 := ae aq (ah aq S);
 let q2 := aM.mk (ae aI (ah aI x.ar)) x.next;
 let q : Hp := [some ([ab aq q3], 25), some ((aP q2), 29)];
 let q1 := ai 86 [(2, .ptr 0 0), (3, .ptr 1 0), (5, aa 0)]; .bind (pH q3 q2) fun y0 => .ag [St.mk q1 [some ([ab aq S], 25), some ((aP x), 29)] [] = St.mk q1 q []] (bif y0 then .ag [aV (Env.P gd) 0 (blk Tryz.prog
  fx 0) (St.mk q1 q []) (Ex.exit 0) (St.mk (ai 86 []) [] [])] (.done (aj.mk (.bool true) [] [])) else .ag [aV (Env.P gd) 0 (blk Tryz.prog fx 0) (St.mk q1 q []) Ex.ret (St.mk (ai 86 [(4, .bool false)]) [] [])] (.done
  (aj.mk (.bool false) [] []))) : T _) := (T.force_eq _).symm.trans (by kernel_rfl)
theorem Zo (S : aS) (x : aM) (i c : Int) (th : List Rw) (k : Int) (d : aU) (Ds : th.length <= 1048576) (hd : d.length <= 1048576) :
  (allN (pF th d) d.length 0 = true -> a8 Tryz.prog 0 (lp Tryz.prog fx 6) (wV S x i c th k d 0) (.exit 6) (rC S x i c th k)) /\
  (allN (pF th d) d.length 0 = false -> a8 Tryz.prog 0 (lp Tryz.prog fx 6) (wV S x i c th k d 0) .ret pK) := by
 refine ij (E := gd) (nf := Ko) (st := fun n => wV S x i c th k d (n : Nat)) (n := d.length) (pF th d) follows named (by simp) (by simp) (fun n => Zs S x i c th k d (n : Nat)) (fun n hn => ?_) ?_ d.length 0 (by simp)
 ·have aL := bq.at d .zero n 3 hn rfl
  have hA : pF th d n = decide (0 <= ct th (d.getD n ⟨0, 0, []⟩).n) := rfl
  rw [hA]
  simp only [At.zero] at aL
  simp only [az, T.WP, All, aB, aC, aA, Int.toNat_natCast, bq.ae, bN.ae, bE (show n < 9223372036854775807 by omega)]
  refine ⟨fun _ => ⟨⟨aK, aL⟩, ?_⟩, fun h => by omega⟩
  rintro y rfl
  refine ⟨En _ _ Ds, fun h => ?_, fun h => ?_⟩
  ·rw [decide_eq_false (by omega)]; rfl
  ·rw [decide_eq_true (by omega)]; rfl
 ·simp only [az, T.WP, All, aB, aC, aA]
  exact ⟨fun h => by omega, fun _ => rfl⟩
theorem Zn {S : aS} {x : aM} (h : er S x) {i c : Nat} (hi : i < x.ar.length) (hc : c < (S.getD i .zero).aw.length) (th : List Rw) (Ds : th.length <= 1048576) :
  (allN (pG th x i c) (x.ar.getD i []).length 0 = true -> a8 Tryz.prog 0 (lp Tryz.prog fx 4) (rC S x i c th 0) (.exit 4) (rB S x i c)) /\
  (allN (pG th x i c) (x.ar.getD i []).length 0 = false -> a8 Tryz.prog 0 (lp Tryz.prog fx 4) (rC S x i c th 0) .ret pK) := by
 have aL := bB.at x.ar [] i 1 hi rfl
 have hn := h.um hi
 refine ij (E := gd) (nf := Kn) (st := fun k => rC S x i c th (k : Nat)) (n := (x.ar.getD i []).length) (pG th x i c) follows named (by simp) (by simp) (fun k => Zr S x i c th (k : Nat)) (fun k hk => ?_) ?_ (x.ar.getD i []).length 0 (by simp)
 ·have hr := h.row hi hk
  have bQ := h.cell hi hk hc
  have cA := bN.at (x.ar.getD i []) ⟨0, []⟩ k 2 hk rfl
  have bO : c < (iM x i k).cells.length := by rw [hr.2]; exact hc
  have mz := bV.at (iM x i k).cells [] c 1 bO rfl
  have hl := Zo S x i c th k (jj x i k c) Ds bQ
  have fZ : IntKind.i64.wrap ((k : Int) + 1) = ((k + 1 : Nat) : Int) := bE af
  unfold pG
  generalize hg : allN (pF th (jj x i k c)) (jj x i k c).length 0 = g at *
  unfold jj iM at *
  simp only [Rw.zero] at *
  simp only [az, T.WP, All, aB, aC, aA, Int.toNat_natCast, bJ.ae, bB.ae, bN.ae, bV.ae, bq.ae, fZ]
  refine ⟨⟨aK, aL⟩, fun _ => ⟨⟨aK, aL⟩, ⟨aK, cA⟩, ⟨aK, mz⟩, ?_⟩, fun h => af⟩
  rw [hg]
  rintro y rfl
  refine ⟨bn, fun h => ⟨.bg (hl.1 h), ?_⟩, fun h => ⟨.bg (hl.2 h), ?_⟩⟩
  ·rw [h]; rfl
  ·rw [h]; rfl
 ·simp only [az, T.WP, All, aB, aC, aA, Int.toNat_natCast, bB.ae]
  exact ⟨⟨aK, aL⟩, fun h => af, fun _ => rfl⟩
theorem Nc {S : aS} {nm : List UInt8} (h : 0 <= cV S nm) : cV S nm < S.length := by
 have := (s7 (p := fun t : Tb => t.name == nm) Tb.zero h).1
 unfold cV at *; omega
theorem Zm {S : aS} {x : aM} (h : er S x) (hR : uJ S) {i : Nat} (hi : i < x.ar.length) :
  (tS S x i = true -> a8 Tryz.prog 0 (lp Tryz.prog fx 2) (rB S x i 0) (.exit 2) (rA S x i)) /\
  (tS S x i = false -> a8 Tryz.prog 0 (lp Tryz.prog fx 2) (rB S x i 0) .ret pK) := by
 have tt : i < S.length := by rw [<- h.n]; exact hi
 have Rb : S.length <= 1048576 := by rw [<- h.n]; exact h.s.n
 have dV := bJ.at S .zero i 4 tt rfl
 have hn := h.aG hi
 refine ij (E := gd) (nf := Km) (st := fun c => rB S x i (c : Nat)) (n := (S.getD i .zero).aw.length) (Ew S x i) follows named (by simp) (by simp) (fun c => Zq S x i (c : Nat)) (fun c hc => ?_) ?_ (S.getD i .zero).aw.length 0 (by simp)
 ·have nq := cR.at (S.getD i .zero).aw .zero c 8 hc rfl
  have fZ : IntKind.i64.wrap ((c : Int) + 1) = ((c + 1 : Nat) : Int) := bE af
  have cL := hR _ (bP .zero tt) _ (bP .zero hc)
  have hC : Ew S x i c = ((gg S i c).kind != 4 || allN (pG (x.ar.getD (cV S (gg S i c).ref).toNat []) x i c) (x.ar.getD i []).length 0) := rfl
  have zd : (gg S i c).kind = 4 -> (cV S (gg S i c).ref).toNat < x.ar.length := fun hk => by
   have := Nc (cL hk)
   have e : cV S (gg S i c).ref = cV S ((S.getD i .zero).aw.getD c .zero).ref := rfl
   rw [e, h.n]; omega
  have hl := fun hk => Zn h hi hc (x.ar.getD (cV S (gg S i c).ref).toNat []) (h.um (zd hk))
  have aL := fun hk => bB.at x.ar [] (cV S (gg S i c).ref).toNat 1 (zd hk) rfl
  rw [hC]
  unfold gg at *
  simp only [Tb.zero, bt.zero] at *
  simp only [az, T.WP, All, aB, aC, aA, Int.toNat_natCast, bJ.ae, cR.ae, bB.ae, bN.ae, fZ]
  refine ⟨⟨aK, dV⟩, fun _ => ⟨⟨aK, dV⟩, ⟨aK, nq⟩, fun hk => ?_, fun hk => ?_⟩, fun h => af⟩
  ·rw [hk, Bool.true_or]; rfl
  ·have yP : ((S.getD i ⟨[], [], [], false⟩).aw.getD c ⟨[], 0, 0, 0, 0, 0, [], false⟩).kind = 4 := by
    simpa only [bne_eq_false_iff_eq] using hk
   rw [hk, Bool.false_or]
   have zd := zd yP
   have cL := cL yP
   have hl := hl yP
   have aL := aL yP
   rintro y rfl
   refine ⟨yv _ _ Rb, ⟨aK, aL⟩, ?_⟩
   rintro y rfl
   refine ⟨bn, fun h => ⟨.bg (hl.1 h), ?_⟩, fun h => ⟨.bg (hl.2 h), ?_⟩⟩
   ·rw [h]; rfl
   ·rw [h]; rfl
 ·simp only [Tb.zero] at *
  simp only [az, T.WP, All, aB, aC, aA, Int.toNat_natCast, bJ.ae]
  exact ⟨⟨aK, dV⟩, fun h => af, fun _ => rfl⟩
theorem Zl {S : aS} {x : aM} (h : er S x) (hR : uJ S) :
  (pH S x = true -> a8 Tryz.prog 0 (lp Tryz.prog fx 0) (rA S x 0) (.exit 0) ⟨ai 86 [], [], []⟩) /\
  (pH S x = false -> a8 Tryz.prog 0 (lp Tryz.prog fx 0) (rA S x 0) .ret pK) := by
 have hn := h.s.n
 refine ij (E := gd) (nf := Kl) (st := fun i => rA S x (i : Nat)) (n := x.ar.length) (tS S x) follows named (by simp) (by simp) (fun i => Zp S x (i : Nat)) (fun i hi => ?_) ?_ x.ar.length 0 (by simp)
 ·have fZ : IntKind.i64.wrap ((i : Int) + 1) = ((i + 1 : Nat) : Int) := bE af
  have hl := Zm h hR hi
  simp only [az, T.WP, All, aB, aC, aA, Int.toNat_natCast, bJ.ae, bB.ae, fZ]
  refine ⟨fun _ => ?_, fun h => af⟩
  rintro y rfl
  refine ⟨bn, fun h => ⟨.bg (hl.1 h), ?_⟩, fun h => ⟨.bg (hl.2 h), ?_⟩⟩
  ·rw [h]; rfl
  ·rw [h]; rfl
 ·simp only [az, T.WP, All, aB, aC, aA]
  exact ⟨fun h => af, fun _ => trivial⟩
theorem YX {S : aS} {x : aM} (h : er S x) (hR : uJ S) : ao Tryz.prog fx [.agg [ab aq S], .agg (aP x)] [] ⟨.bool (pH S x), [], []⟩ := by
 have hl := Zl h hR
 refine bh (E := gd) follows named (Zt S x) (by simp) ?_
 simp only [az, T.WP, All, aA, bJ.ae, bB.ae]
 rintro y rfl
 refine ⟨bn, fun h => ⟨.bg (hl.1 h), ?_⟩, fun h => ⟨.bg (hl.2 h), ?_⟩⟩
 ·rw [h]; exact aQ
 ·rw [h]; exact aQ
abbrev fJ : Nat := 146
abbrev uX : Nat := 68
def p8 (S : aS) : Prop := ∀ t ∈ S, ∀ u ∈ t.uniq, 0 <= u /\ u < t.aw.length
def uq : St := ⟨ai 85 [(4, .bool false)], [], []⟩
def Ag (S : aS) (x : aM) (i : Int) (L : List Int) (k j : Int) (b : Bool) (n : Int) : St := ⟨ai 85 [(2, .ptr 0 0), (3, .ptr 1 0), (5, .int .i64 i), (6, ab aN L), (7, .int .i64 k), (8, .int .i64 j), (9, .bool b), (10, .int .i64 n)], kP S x, []⟩
def Fk (S : aS) (x : aM) (i : Int) (L : List Int) (k j : Int) (b : Bool) : St := ⟨ai 85 [(2, .ptr 0 0), (3, .ptr 1 0), (5, .int .i64 i), (6, ab aN L), (7, .int .i64 k), (8, .int .i64 j), (9, .bool b)], kP S x, []⟩
def w5 (S : aS) (x : aM) (i : Int) (L : List Int) (k j : Int) : St := ⟨ai 85 [(2, .ptr 0 0), (3, .ptr 1 0), (5, .int .i64 i), (6, ab aN L), (7, .int .i64 k), (8, .int .i64 j)], kP S x, []⟩
def rI (S : aS) (x : aM) (i : Int) (L : List Int) (k : Int) : St := ⟨ai 85 [(2, .ptr 0 0), (3, .ptr 1 0), (5, .int .i64 i), (6, ab aN L), (7, .int .i64 k)], kP S x, []⟩
def rH (S : aS) (x : aM) (i : Int) : St := ⟨ai 85 [(2, .ptr 0 0), (3, .ptr 1 0), (5, .int .i64 i)], kP S x, []⟩
def Kx : Ex -> Kp := fun ex => match ex with
 | .normal => { keep := [2, 3, 5, 6, 7, 8, 9, 10] }
 | .ret => { keep := [4] }
 | _ => { keep := [2, 3, 5, 6, 7, 8, 9] }
def Kw : Ex -> Kp := fun ex => match ex with
 | .normal => { keep := [2, 3, 5, 6, 7, 8] }
 | .ret => { keep := [4] }
 | _ => { keep := [2, 3, 5, 6, 7] }
def DW : Ex -> Kp := fun ex => match ex with
 | .normal => { keep := [2, 3, 5, 6, 7] }
 | .ret => { keep := [4] }
 | _ => { keep := [2, 3, 5] }
def Kv : Ex -> Kp := fun ex => match ex with
 | .normal => { keep := [2, 3, 5] }
 | .ret => { keep := [4] }
 | _ => { keep := [] }
noncomputable def Vp : Nat -> St -> Option bT := fun id s => match id, s.tm.get 5, s.tm.get 6, s.tm.get 7, s.tm.get 8, s.hp with
 | 6, .int _ i, .dsl _ _ us, .int _ k, .int _ j, some ([.dsl _ _ cs], _) :: some ([.dsl _ _ ts, .int _ nx], _) :: _ =>
  some ⟨allN (rQ (ae aq cs) ⟨ae aI ts, nx⟩ i.toNat k.toNat j.toNat) (ae aN us).length 0, fun y => .one { keep := [2, 3, 5, 6, 7, 8, 9, 10] } (Ag (ae aq cs) ⟨ae aI ts, nx⟩ i (ae aN us) k j true 0) (.exit 6) (Fk (ae aq cs) ⟨ae aI ts, nx⟩ i (ae aN us) k j y)⟩
 | 4, .int _ i, .dsl _ _ us, .int _ k, _, some ([.dsl _ _ cs], _) :: some ([.dsl _ _ ts, .int _ nx], _) :: _ =>
  some ⟨rP (ae aq cs) ⟨ae aI ts, nx⟩ i.toNat k.toNat, fun y => .two { keep := [2, 3, 5, 6, 7, 8] } (w5 (ae aq cs) ⟨ae aI ts, nx⟩ i (ae aN us) k 0) y (.exit 4) (rI (ae aq cs) ⟨ae aI ts, nx⟩ i (ae aN us) k) .ret uq⟩
 | 2, .int _ i, .dsl _ _ us, _, _, some ([.dsl _ _ cs], _) :: some ([.dsl _ _ ts, .int _ nx], _) :: _ =>
  some ⟨rS (ae aq cs) ⟨ae aI ts, nx⟩ i.toNat, fun y => .two { keep := [2, 3, 5, 6, 7] } (rI (ae aq cs) ⟨ae aI ts, nx⟩ i (ae aN us) 0) y (.exit 2) (rH (ae aq cs) ⟨ae aI ts, nx⟩ i) .ret uq⟩
 | 0, _, _, _, _, some ([.dsl _ _ cs], _) :: some ([.dsl _ _ ts, .int _ nx], _) :: _ =>
  some ⟨pV (ae aq cs) ⟨ae aI ts, nx⟩, fun y => .two { keep := [2, 3, 5] } (rH (ae aq cs) ⟨ae aI ts, nx⟩ 0) y (.exit 0) ⟨ai 85 [], [], []⟩ .ret uq⟩
 | _, _, _, _, _, _ => none
noncomputable def pW : Vw := fun t cs i => bif Nat.beq t 3 then some (aN ((ae aN cs).getD i 0)) else fv t cs i
noncomputable def gD : Env := { P := Tryz.prog, vw := pW, res := wb, ls := Vp }
theorem ai1 (S : aS) (x : aM) (i : Int) (L : List Int) (k j : Int) (b : Bool) (n : Int) : bx gD 0 Kx (lp Tryz.prog fJ 6) (Ag S x i L k j b n) = (
 let q := List.getD (ae aI (ah aI x.ar)) i.toNat [];
 let q7 := ae aN (ah aN L);
 let q1 := List.getD q7 n.toNat (0 : Int);
 let br := ah av q;
 let q2 := List.getD (ae av br) k.toNat (Rw.mk (0 : Int) []);
 let q3 := List.getD (ae av br) j.toNat (Rw.mk (0 : Int) []);
 let q4 := List.getD (ae a7 (ah a7 q2.cells)) q1.toNat [];
 let q5 := List.getD (ae a7 (ah a7 q3.cells)) q1.toNat [];
 let q6 : List Prop := [0 <= i /\ i < (↑x.ar.length : Int), List.take 1 (List.drop (i.toNat * 1) (ah aI x.ar)) = [ab av q]];
 let q8 : List Prop := [0 <= n /\ n < (↑L.length : Int), List.take 1 (List.drop (n.toNat * 1) (ah aN L)) = [aa q1]];
 let q9 : Hp := [some ([ab aq S], 25), some ((aP x), 29)];
 let bD := IntKind.i64.wrap (n + 1); bif decide (n < (↑L.length : Int)) then bif b then .ag q6 (.ag [0 <= k /\ k < (↑q.length : Int), List.take 2 (List.drop (k.toNat * 2) br) = [aa q2.id, ab a7 q2.cells]] (.ag q8 (.ag [0 <=
  List.getD q7 n.toNat (0 : Int) /\ List.getD q7 n.toNat (0 : Int) < (↑q2.cells.length : Int), List.take 1 (List.drop (q1.toNat * 1) (ah a7 q2.cells)) = [ab ak q4]] (.ag q6 (.ag [0 <= j /\ j < (↑q.length : Int), List.take 2
  (List.drop (j.toNat * 2) br) = [aa q3.id, ab a7 q3.cells]] (.ag q8 (.ag [0 <= List.getD q7 n.toNat (0 : Int) /\ List.getD q7 n.toNat (0 : Int) < (↑q3.cells.length : Int), List.take 1 (List.drop (q1.toNat * 1) (ah a7
  q3.cells)) = [ab ak q5]] (.bind (decide (ae ak (ah ak q4) = ae ak (ah ak q5))) fun y0 => .ag [ao (Env.P gD) 215 [ab ak q4, ab ak q5] [] (aj.mk (.bool y0) [] [])] (.done (Ex.normal, St.mk (ai 85
  [(2, .ptr 0 0), (3, .ptr 1 0), (5, aa i), (6, ab aN L), (7, aa k), (8, aa j), (9, .bool y0), (10, aa bD)]) q9 [])))))))))) else .done (Ex.normal, St.mk (ai 85 [(2, .ptr 0 0), (3, .ptr 1 0), (5, aa i), (6, ab aN L),
  (7, aa k), (8, aa j), (9, .bool false), (10, aa bD)]) q9 []) else .done (Ex.exit 6, St.mk (ai 85 [(2, .ptr 0 0), (3, .ptr 1 0), (5, aa i), (6, ab aN L), (7, aa k), (8, aa j), (9, .bool b)]) q9 []) : T _) := by kernel_rfl
theorem ai0 (S : aS) (x : aM) (i : Int) (L : List Int) (k j : Int) : bx gD 0 Kw (lp Tryz.prog fJ 4) (w5 S x i L k j) = (
 let q5 := ae aq (ah aq S);
 let q3 := aM.mk (ae aI (ah aI x.ar)) x.next;
 let q : Hp := [some ([ab aq q5], 25), some ((aP q3), 29)];
 let q2 := ae aN (ah aN L);
 let q1 := ai 85 [(2, .ptr 0 0), (3, .ptr 1 0), (5, aa i), (6, ab aN q2), (7, aa k), (8, aa j), (9, .bool true), (10, aa 0)];
 let q4 : Hp := [some ([ab aq S], 25), some ((aP x), 29)]; bif decide (j < k) then .bind (allN (rQ q5 q3 i.toNat k.toNat j.toNat) q2.length 0) fun y0 => .ag [St.mk (ai 85 [(2, .ptr 0 0), (3, .ptr 1 0), (5, aa i), (6, ab
  aN L), (7, aa k), (8, aa j), (9, .bool true), (10, aa 0)]) q4 [] = St.mk q1 q [], aV (Env.P gD) 0 (blk Tryz.prog fJ 6) (St.mk q1 q []) (Ex.exit 6) (St.mk (ai 85 [(2, .ptr 0 0), (3, .ptr 1 0), (5, aa i), (6, ab aN
  q2), (7, aa k), (8, aa j), (9, .bool y0)]) q [])] (bif y0 then .done (Ex.ret, St.mk (ai 85 [(4, .bool false)]) [] []) else .done (Ex.normal, St.mk (ai 85 [(2, .ptr 0 0), (3, .ptr 1 0), (5, aa i), (6, ab aN q2), (7, aa k),
  (8, aa (IntKind.i64.wrap (j + 1)))]) q [])) else .done (Ex.exit 4, St.mk (ai 85 [(2, .ptr 0 0), (3, .ptr 1 0), (5, aa i), (6, ab aN L), (7, aa k)]) q4 []) : T _) := by kernel_rfl
theorem Nt (S : aS) (x : aM) (i : Int) (L : List Int) (k : Int) : bx gD 0 DW (lp Tryz.prog fJ 2) (rI S x i L k) = (
 let q8 := ae aq (ah aq S);
 let q9 := ah aI x.ar;
 let q2 := ae aI q9;
 let q : Hp := [some ([ab aq q8], 25), some ((aP (aM.mk q2 x.next)), 29)];
 let q5 := ae aN (ah aN L);
 let q1 := ai 85 [(2, .ptr 0 0), (3, .ptr 1 0), (5, aa i), (6, ab aN q5), (7, aa k), (8, aa 0)];
 let q3 : Hp := [some ([ab aq S], 25), some ((aP x), 29)];
 let q4 := ai 85 [(2, .ptr 0 0), (3, .ptr 1 0), (5, aa i)];
 let q6 := List.getD q2 i.toNat [];
 let q7 := ai 85 [(4, .bool false)]; .ag [0 <= i /\ i < (↑x.ar.length : Int), List.take 1 (List.drop (i.toNat * 1) q9) = [ab av q6]] (bif decide (k < (↑q6.length : Int)) then bif decide ((↑L.length : Int) > 0) then .bind (rP q8
  (aM.mk q2 x.next) i.toNat k.toNat) fun y0 => .ag [St.mk (ai 85 [(2, .ptr 0 0), (3, .ptr 1 0), (5, aa i), (6, ab aN L), (7, aa k), (8, aa 0)]) q3 [] = St.mk q1 q []] (bif y0 then .ag [aV (Env.P gD) 0 (blk Tryz.prog
  fJ 4) (St.mk q1 q []) (Ex.exit 4) (St.mk (ai 85 [(2, .ptr 0 0), (3, .ptr 1 0), (5, aa i), (6, ab aN q5), (7, aa k)]) q [])] (.done (Ex.normal, St.mk (ai 85 [(2, .ptr 0 0), (3, .ptr 1 0), (5, aa i), (6, ab aN q5),
  (7, aa (IntKind.i64.wrap (k + 1)))]) q [])) else .ag [aV (Env.P gD) 0 (blk Tryz.prog fJ 4) (St.mk q1 q []) Ex.ret (St.mk q7 [] [])] (.done (Ex.ret, St.mk q7 [] []))) else .done (Ex.exit 2, St.mk q4 q3 []) else .done (Ex.exit
  2, St.mk q4 q3 [])) : T _) := (T.force_eq _).symm.trans (by kernel_rfl)
theorem ah9 (S : aS) (x : aM) (i : Int) : bx gD 0 Kv (lp Tryz.prog fJ 0) (rH S x i) = (
 let q4 := ae aq (ah aq S);
 let q3 := aM.mk (ae aI (ah aI x.ar)) x.next;
 let q : Hp := [some ([ab aq q4], 25), some ((aP q3), 29)];
 let q2 := List.getD q4 i.toNat (Tb.mk [] [] [] false);
 let q1 := ai 85 [(2, .ptr 0 0), (3, .ptr 1 0), (5, aa i), (6, ab aN (ae aN (ah aN q2.uniq))), (7, aa 0)];
 let q5 := ai 85 [(4, .bool false)]; bif decide (i < (↑x.ar.length : Int)) then .ag [0 <= i /\ i < (↑S.length : Int), List.take 4 (List.drop (i.toNat * 4) (ah aq S)) = (aq q2)] (.bind (rS q4 q3 i.toNat) fun y0 => .ag
  [St.mk (ai 85 [(2, .ptr 0 0), (3, .ptr 1 0), (5, aa i), (6, ab aN q2.uniq), (7, aa 0)]) [some ([ab aq S], 25), some ((aP x), 29)] [] = St.mk q1 q []] (bif y0 then .ag [aV (Env.P gD) 0 (blk Tryz.prog fJ 2)
  (St.mk q1 q []) (Ex.exit 2) (St.mk (ai 85 [(2, .ptr 0 0), (3, .ptr 1 0), (5, aa i)]) q [])] (.done (Ex.normal, St.mk (ai 85 [(2, .ptr 0 0), (3, .ptr 1 0), (5, aa (IntKind.i64.wrap (i + 1)))]) q [])) else .ag [aV (Env.P gD)
  0 (blk Tryz.prog fJ 2) (St.mk q1 q []) Ex.ret (St.mk q5 [] [])] (.done (Ex.ret, St.mk q5 [] [])))) else .done (Ex.exit 0, St.mk (ai 85 []) [] []) : T _) := by kernel_rfl
theorem unT (S : aS) (x : aM) : fnT gD 0 fJ [.agg [ab aq S], .agg (aP x)] [] = (
 let q3 := ae aq (ah aq S);
 let q2 := aM.mk (ae aI (ah aI x.ar)) x.next;
 let q : Hp := [some ([ab aq q3], 25), some ((aP q2), 29)];
 let q1 := ai 85 [(2, .ptr 0 0), (3, .ptr 1 0), (5, aa 0)]; .bind (pV q3 q2) fun y0 => .ag [St.mk q1 [some ([ab aq S], 25), some ((aP x), 29)] [] = St.mk q1 q []] (bif y0 then .ag [aV (Env.P gD) 0 (blk Tryz.prog
  fJ 0) (St.mk q1 q []) (Ex.exit 0) (St.mk (ai 85 []) [] [])] (.done (aj.mk (.bool true) [] [])) else .ag [aV (Env.P gD) 0 (blk Tryz.prog fJ 0) (St.mk q1 q []) Ex.ret (St.mk (ai 85 [(4, .bool false)]) [] [])] (.done
  (aj.mk (.bool false) [] []))) : T _) := (T.force_eq _).symm.trans (by kernel_rfl)
theorem HX (g : Nat -> Bool) : ∀ (k i : Nat) (s : Bool), s9 (fun n s => s && g n) k i s = (s && allN g k i)
 | 0, i, s => by simp [s9, allN]
 | k + 1, i, s => by rw [s9, HX g k (i + 1), allN]; cases s <;> cases g i <;> simp
theorem ah8 {S : aS} {x : aM} (h : er S x) (hU : p8 S) {i k j : Nat} (hi : i < x.ar.length) (hk : k < (x.ar.getD i []).length) (hj : j < (x.ar.getD i []).length) :
  a8 Tryz.prog 0 (lp Tryz.prog fJ 6) (Ag S x i (S.getD i .zero).uniq k j true 0) (.exit 6) (Fk S x i (S.getD i .zero).uniq k j (allN (rQ S x i k j) (S.getD i .zero).uniq.length 0)) := by
 have tt : i < S.length := by rw [<- h.n]; exact hi
 have aL := bB.at x.ar [] i 1 hi rfl
 have hr := h.row hi hk
 have yZ := h.row hi hj
 have cA := bN.at (x.ar.getD i []) ⟨0, []⟩ k 2 hk rfl
 have Rr := bN.at (x.ar.getD i []) ⟨0, []⟩ j 2 hj rfl
 have hu := (h.aG hi).2
 have key := HY (E := gD) (m := 0) (nf := Kx) (c := lp Tryz.prog fJ 6) (st := fun n b => Ag S x i (S.getD i .zero).uniq k j b (n : Nat)) (n := (S.getD i .zero).uniq.length) (fun _ _ => True) (fun n s => s && rQ S x i k j n) (ex := .exit 6) (sx := fun b => Fk S x i (S.getD i .zero).uniq k j b) follows named (by simp) (fun n b => ai1 S x i (S.getD i .zero).uniq k j b (n : Nat)) (fun n b hn _ => ⟨?_, bn⟩) (fun b _ => ?_) (S.getD i .zero).uniq.length 0 true (by simp) trivial
 ·rw [HX, Bool.true_and] at key
  exact key.1
 ·have tD := hU _ (bP .zero tt) _ (bP 0 hn)
  have Is := ej.at (S.getD i .zero).uniq 0 n 1 hn rfl
  have bQ := h.cell hi hk (c := ((S.getD i .zero).uniq.getD n 0).toNat) af
  have e1 : (iM x i k).cells.length = (S.getD i .zero).aw.length := hr.2
  have e2 : (iM x i j).cells.length = (S.getD i .zero).aw.length := yZ.2
  have mz := bV.at' (iM x i k).cells [] ((S.getD i .zero).uniq.getD n 0) 1 (by rw [e1]; omega) rfl
  have Rs := bV.at' (iM x i j).cells [] ((S.getD i .zero).uniq.getD n 0) 1 (by rw [e2]; omega) rfl
  have hN : rQ S x i k j n = decide (jj x i k ((S.getD i .zero).uniq.getD n 0).toNat = jj x i j ((S.getD i .zero).uniq.getD n 0).toNat) := rfl
  have fZ : IntKind.i64.wrap ((n : Int) + 1) = ((n + 1 : Nat) : Int) := bE af
  rw [<- e1] at tD
  have ak7 : 0 <= (S.getD i .zero).uniq.getD n 0 /\ (S.getD i .zero).uniq.getD n 0 < (iM x i j).cells.length := by rw [e2, <- e1]; exact tD
  rw [hN]
  unfold jj at *
  generalize (S.getD i .zero).uniq = L at *
  generalize R4 : L.getD n 0 = u at *
  unfold iM at *
  simp only [Rw.zero] at *
  simp only [az, T.WP, All, aB, aC, aA, Int.toNat_natCast, bB.ae, bN.ae, bV.ae, ej.ae, bq.ae, fZ, R4]
  refine ⟨fun _ => ⟨fun hb => ⟨⟨aK, aL⟩, ⟨aK, cA⟩, ⟨aK, Is⟩, ⟨aK, mz⟩, ⟨aK, aL⟩, ⟨aK, Rr⟩, ⟨aK, Is⟩, ⟨aK, Rs⟩, ?_⟩, fun hb => ?_⟩, fun h => af⟩
  ·rintro y rfl
   refine ⟨zQ _ _ bQ, ?_⟩
   rw [hb, Bool.true_and]; rfl
  ·rw [hb, Bool.false_and]; rfl
 ·simp only [az, T.WP, All, aB, aC, aA]
  exact ⟨fun h => af, fun _ => rfl⟩
theorem ah7 {S : aS} {x : aM} (h : er S x) (hU : p8 S) {i k : Nat} (hi : i < x.ar.length) (hk : k < (x.ar.getD i []).length) :
  (rP S x i k = true -> a8 Tryz.prog 0 (lp Tryz.prog fJ 4) (w5 S x i (S.getD i .zero).uniq k 0) (.exit 4) (rI S x i (S.getD i .zero).uniq k)) /\
  (rP S x i k = false -> a8 Tryz.prog 0 (lp Tryz.prog fJ 4) (w5 S x i (S.getD i .zero).uniq k 0) .ret uq) := by
 have hn := h.um hi
 refine ij (E := gD) (nf := Kw) (st := fun j => w5 S x i (S.getD i .zero).uniq k (j : Nat)) (n := k) (FD S x i k) follows named (by simp) (by simp) (fun j => ai0 S x i (S.getD i .zero).uniq k (j : Nat)) (fun j hj => ?_) ?_ k 0 (by simp)
 ·have hl := ah8 h hU hi hk (show j < (x.ar.getD i []).length by omega)
  have fZ : IntKind.i64.wrap ((j : Int) + 1) = ((j + 1 : Nat) : Int) := bE (by omega)
  have hJ : FD S x i k j = !allN (rQ S x i k j) (S.getD i .zero).uniq.length 0 := rfl
  rw [hJ]
  generalize (S.getD i .zero).uniq = L at *
  simp only [az, T.WP, All, aB, aC, aA, Int.toNat_natCast, bJ.ae, bB.ae, ej.ae, fZ]
  refine ⟨fun _ => ?_, fun h => by omega⟩
  rintro y rfl
  refine ⟨⟨bn, .bg hl⟩, fun h => ?_, fun h => ?_⟩
  ·rw [h]; rfl
  ·rw [h]; rfl
 ·simp only [az, T.WP, All, aB, aC, aA]
  exact ⟨fun h => by omega, fun _ => rfl⟩
theorem ah6 {S : aS} {x : aM} (h : er S x) (hU : p8 S) {i : Nat} (hi : i < x.ar.length) :
  (rS S x i = true -> a8 Tryz.prog 0 (lp Tryz.prog fJ 2) (rI S x i (S.getD i .zero).uniq 0) (.exit 2) (rH S x i)) /\
  (rS S x i = false -> a8 Tryz.prog 0 (lp Tryz.prog fJ 2) (rI S x i (S.getD i .zero).uniq 0) .ret uq) := by
 have aL := bB.at x.ar [] i 1 hi rfl
 have hn := h.um hi
 have hT : rS S x i = (decide ((S.getD i .zero).uniq.length = 0) || allN (rP S x i) (x.ar.getD i []).length 0) := rfl
 by_cases h0 : (S.getD i .zero).uniq.length = 0
 ·rw [hT, decide_eq_true h0, Bool.true_or]
  refine ⟨fun _ => ?_, fun h => by cases h⟩
  refine .done (iN (E := gD) (nf := DW) follows named (Nt S x i (S.getD i .zero).uniq ((0 : Nat) : Int)) ?_) (by simp)
  generalize (S.getD i .zero).uniq = L at *
  simp only [az, T.WP, All, aB, aC, aA, Int.toNat_natCast, bB.ae]
  exact ⟨⟨aK, aL⟩, fun _ => ⟨fun h => af, fun _ => rfl⟩, fun _ => rfl⟩
 ·rw [hT, decide_eq_false h0, Bool.false_or]
  refine ij (E := gD) (nf := DW) (st := fun k => rI S x i (S.getD i .zero).uniq (k : Nat)) (n := (x.ar.getD i []).length) (rP S x i) follows named (by simp) (by simp) (fun k => Nt S x i (S.getD i .zero).uniq (k : Nat)) (fun k hk => ?_) ?_ (x.ar.getD i []).length 0 (by simp)
  ·have hl := ah7 h hU hi hk
   have fZ : IntKind.i64.wrap ((k : Int) + 1) = ((k + 1 : Nat) : Int) := bE af
   generalize (S.getD i .zero).uniq = L at *
   simp only [az, T.WP, All, aB, aC, aA, Int.toNat_natCast, bJ.ae, bB.ae, ej.ae, fZ]
   refine ⟨⟨aK, aL⟩, fun _ => ⟨fun _ => ?_, fun h => af⟩, fun h => af⟩
   rintro y rfl
   refine ⟨bn, fun h => ⟨.bg (hl.1 h), ?_⟩, fun h => ⟨.bg (hl.2 h), ?_⟩⟩
   ·rw [h]; rfl
   ·rw [h]; rfl
  ·generalize (S.getD i .zero).uniq = L at *
   simp only [az, T.WP, All, aB, aC, aA, Int.toNat_natCast, bB.ae]
   exact ⟨⟨aK, aL⟩, fun h => af, fun _ => rfl⟩
theorem ah5 {S : aS} {x : aM} (h : er S x) (hU : p8 S) :
  (pV S x = true -> a8 Tryz.prog 0 (lp Tryz.prog fJ 0) (rH S x 0) (.exit 0) ⟨ai 85 [], [], []⟩) /\
  (pV S x = false -> a8 Tryz.prog 0 (lp Tryz.prog fJ 0) (rH S x 0) .ret uq) := by
 have hn := h.s.n
 refine ij (E := gD) (nf := Kv) (st := fun i => rH S x (i : Nat)) (n := x.ar.length) (rS S x) follows named (by simp) (by simp) (fun i => ah9 S x (i : Nat)) (fun i hi => ?_) ?_ x.ar.length 0 (by simp)
 ·have fZ : IntKind.i64.wrap ((i : Int) + 1) = ((i + 1 : Nat) : Int) := bE af
  have dV := bJ.at S .zero i 4 (by rw [<- h.n]; exact hi) rfl
  have hS := h.n
  have hl := ah6 h hU hi
  simp only [Tb.zero] at *
  simp only [az, T.WP, All, aB, aC, aA, Int.toNat_natCast, bJ.ae, bB.ae, ej.ae, fZ]
  refine ⟨fun _ => ⟨⟨aK, dV⟩, ?_⟩, fun h => af⟩
  rintro y rfl
  refine ⟨bn, fun h => ⟨.bg (hl.1 h), ?_⟩, fun h => ⟨.bg (hl.2 h), ?_⟩⟩
  ·rw [h]; rfl
  ·rw [h]; rfl
 ·simp only [az, T.WP, All, aB, aC, aA]
  exact ⟨fun h => af, fun _ => trivial⟩
theorem ai3 {S : aS} {x : aM} (h : er S x) (hU : p8 S) : ao Tryz.prog fJ [.agg [ab aq S], .agg (aP x)] [] ⟨.bool (pV S x), [], []⟩ := by
 have hl := ah5 h hU
 refine bh (E := gD) follows named (unT S x) (by simp) ?_
 simp only [az, T.WP, All, aA, bJ.ae, bB.ae]
 rintro y rfl
 refine ⟨bn, fun h => ⟨.bg (hl.1 h), ?_⟩, fun h => ⟨.bg (hl.2 h), ?_⟩⟩
 ·rw [h]; exact aQ
 ·rw [h]; exact aQ
noncomputable def tP : cP := fun f vs hp =>
 bif Nat.beq f fx then (match vs with | [.agg [.dsl _ _ cs], .agg [.dsl _ _ ts, .int _ nx]] => some ⟨pH (ae aq cs) ⟨ae aI ts, nx⟩, fun y => ⟨.bool y, [], []⟩⟩ | _ => none) else
 bif Nat.beq f fJ then (match vs with | [.agg [.dsl _ _ cs], .agg [.dsl _ _ ts, .int _ nx]] => some ⟨pV (ae aq cs) ⟨ae aI ts, nx⟩, fun y => ⟨.bool y, [], []⟩⟩ | _ => none) else
 bif Nat.beq f ix then (match vs with | [.agg [.dsl _ _ cs], .agg [.dsl _ _ ts, .int _ nx], .int _ t, .int _ w] => some ⟨eS (ae aq cs) ⟨ae aI ts, nx⟩ t.toNat w, fun y => ⟨.int .i64 (y : Nat), [], []⟩⟩ | _ => none) else
 bif Nat.beq f uX then (match vs with | [.agg [.dsl _ _ cs], .agg [.dsl _ _ ts, .int _ nx]] => some ⟨mj (ae aq cs) ⟨ae aI ts, nx⟩, fun y => ⟨.int .i64 y, [], []⟩⟩ | _ => none) else wb f vs hp
noncomputable def xr : Env := { P := Tryz.prog, vw := pW, res := tP }
theorem O3 (S : aS) (x : aM) : fnT xr 0 uX [.agg [ab aq S], .agg (aP x)] [] = (
 let q := aM.mk (ae aI (ah aI x.ar)) x.next;
 let q1 : List V := [.agg [ab aq S], .agg (aP x)];
 let q2 := ae aq (ah aq S); .bind (pH q2 q) fun y0 => .ag [ao (Env.P xr) 145 q1 [] (aj.mk (.bool y0) [] [])] (bif !y0 then .done (aj.mk (aa 13) [] []) else .bind (pV q2 q) fun y1 => .ag [ao (Env.P xr) 146 q1
  [] (aj.mk (.bool y1) [] [])] (bif !y1 then .done (aj.mk (aa 12) [] []) else .done (aj.mk (aa 0) [] []))) : T _) := (T.force_eq _).symm.trans (by kernel_rfl)
theorem Pl {S : aS} {x : aM} (h : er S x) (hR : uJ S) (hU : p8 S) : ao Tryz.prog uX [.agg [ab aq S], .agg (aP x)] [] ⟨.int .i64 (mj S x), [], []⟩ := by
 refine bh (E := xr) follows named (O3 S x) (by simp) ?_
 simp only [az, T.WP, All, aA, bJ.ae, bB.ae]
 unfold mj
 rintro y rfl
 refine ⟨YX h hR, fun h1 => ?_, fun h1 => ?_⟩
 ·rw [h1]; exact aQ
 ·rw [h1]
  rintro y rfl
  refine ⟨ai3 h hU, fun h2 => ?_, fun h2 => ?_⟩
  ·rw [h2]; exact aQ
  ·rw [h2]; exact aQ
abbrev sR : Nat := 285
abbrev sS : Nat := 243
abbrev Cb : Nat := 203
abbrev Co : Nat := 286
abbrev B1 : Nat := 242
def gv (f a b : Int) : Int × Bool :=
 bif f == 1 then (IntKind.i64.wrap (a + b), bz (IntKind.i64.wrap (a + b)) (-1000000000) 1000000000)
 else bif f == 2 then (IntKind.i64.wrap (a - b), bz (IntKind.i64.wrap (a - b)) (-1000000000) 1000000000)
 else bif f == 3 then (IntKind.i64.wrap (a * b), bz (IntKind.i64.wrap (a * b)) (-1000000000) 1000000000)
 else bif b == 0 then (0, false)
 else bif f == 5 then (a.tmod b, bz (a.tmod b) (-1000000000) 1000000000)
 else (IntKind.i64.wrap (a.tdiv b), bz (IntKind.i64.wrap (a.tdiv b)) (-1000000000) 1000000000)
noncomputable def zK : cP := fun f vs hp =>
 bif Nat.beq f qu then (match vs with | [.dsl _ _ cs, .agg [.int _ k, .int _ n, .str t]] => some ⟨dN (ae ak cs) ⟨k, n, t⟩, fun y => ⟨ab ak y, [], []⟩⟩ | _ => none) else
 bif Nat.beq f sR then (match vs with | [.dsl _ _ cs, .dsl _ _ ds] => some ⟨joinF (ae ak cs) (ae ak ds), fun y => ⟨ab ak y, [], []⟩⟩ | _ => none) else
 bif Nat.beq f sS then (match vs with | [.dsl _ _ cs, .dsl _ _ ds] => some ⟨dr (ae ak cs) (ae ak ds), fun y => ⟨ab ak y, [], []⟩⟩ | _ => none) else
 bif Nat.beq f Cb then (match vs with | [.agg [.str nm, .int _ a, .int _ b, .int _ e, .int _ g, .int _ h, .str r, .bool q]] => some ⟨gR ⟨nm, a, b, e, g, h, r, q⟩, fun y => ⟨ab ak y, [], []⟩⟩ | _ => none) else
 bif Nat.beq f Co then (match vs with | [.int _ a, .int _ b, .int _ c] => some ⟨gv a b c, fun y => ⟨.tup [.int .i64 y.1, .bool y.2], [], []⟩⟩ | _ => none) else
 bif Nat.beq f B1 then (match vs with | [.agg [.str tn, .dsl _ _ cc, .dsl _ _ uu, .bool r], .agg [.int _ d, .dsl _ _ cs], .str nm] => some ⟨dS (bw tn cc uu r) ⟨d, ae a7 cs⟩ nm, fun y => ⟨ab ak y, [], []⟩⟩ | _ => none) else tP f vs hp
noncomputable def dJ : Env := { P := Tryz.prog, vw := pW, res := zK }
def z7 (b o : aU) (i : Int) : St := ⟨ai 23 [(1, ab ak b), (5, ab ak o), (6, .int .i64 i)], [], []⟩
def Wy : Ex -> Kp := fun ex => match ex with
 | .normal => { keep := [1, 5, 6] }
 | _ => { keep := [5] }
theorem Jx (b o : aU) (i : Int) : bx dJ 0 Wy (lp Tryz.prog sR 0) (z7 b o i) = (
 let q := List.getD (ae ak (ah ak b)) i.toNat (At.mk (0 : Int) (0 : Int) []); bif decide (i < (↑b.length : Int)) then .ag [0 <= i /\ i < (↑b.length : Int), List.take 3 (List.drop (i.toNat * 3) (ah ak b)) = ak q] (.bind
  (dN (ae ak (ah ak o)) (At.mk q.kind q.n q.t)) fun y0 => .ag [ao (Env.P dJ) 186 [ab ak o, .agg (ak q)] [] (aj.mk (ab ak y0) [] [])] (.done (Ex.normal, St.mk (ai 23 [(1, ab ak b), (5, ab ak y0),
  (6, aa (IntKind.i64.wrap (i + 1)))]) [] []))) else .done (Ex.exit 0, St.mk (ai 23 [(5, ab ak o)]) [] []) : T _) := by kernel_rfl
theorem Jy (b : aU) (hb : b.length <= 1000) : ∀ (k i : Nat) (o : aU), i + k = b.length -> o.length <= 1000 + i ->
  a8 Tryz.prog 0 (lp Tryz.prog sR 0) (z7 b o i) (.exit 0) ⟨ai 23 [(5, ab ak (joinF o (b.drop i)))], [], []⟩
 | 0, i, o, hi, ho => by
  have hi : i = b.length := hi
  subst hi
  rw [List.drop_length]
  refine bl (E := dJ) follows named (Jx b o (b.length : Nat)) ?_
  simp only [az, T.WP, All, aB, aC, aA]
  exact ⟨fun h => by omega, fun _ => ⟨rfl, rfl⟩⟩
 | k + 1, i, o, hi, ho => by
  have aL := bq.at b ⟨0, 0, []⟩ i 3 (by omega) rfl
  have hp := oA o (b.getD i ⟨0, 0, []⟩)
  have ih := Jy b hb k (i + 1) (dN o (b.getD i ⟨0, 0, []⟩)) (by omega) (by omega)
  have w1 : IntKind.i64.wrap ((i : Int) + 1) = ((i + 1 : Nat) : Int) := bE (by omega)
  rw [gh ⟨0, 0, []⟩ (show i < b.length by omega), joinF]
  refine bl (E := dJ) follows named (Jx b o (i : Nat)) ?_
  simp only [az, T.WP, All, aB, aC, aA, w1, bq.ae, Int.toNat_natCast]
  refine ⟨fun _ => ⟨⟨aK, aL⟩, ?_⟩, fun h => by omega⟩
  rintro y rfl
  exact ⟨zJ o _ (by omega), ih⟩
noncomputable def UR : Nat -> St -> Option bT := fun id s => match id, s.tm.get 1, s.hp with
 | 0, .dsl _ _ cs, some ([.aJ os], _) :: _ => some ⟨joinF (ae ak os) (ae ak cs), fun y => .one { keep := [1, 5, 6], perm := some ([], []) } (z7 (ae ak cs) (ae ak os) 0) (.exit 0) ⟨ai 23 [(5, ab ak y)], [], []⟩⟩
 | 0, .dsl _ _ cs, _ :: some ([.aJ os], _) :: _ => some ⟨joinF (ae ak os) (ae ak cs), fun y => .one { keep := [1, 5, 6], perm := some ([], []) } (z7 (ae ak cs) (ae ak os) 0) (.exit 0) ⟨ai 23 [(5, ab ak y)], [], []⟩⟩
 | _, _, _ => none
noncomputable def AT : Env := { P := Tryz.prog, vw := pW, res := zK, ls := UR }
theorem Ud (a b : aU) : fnT AT 0 sR [ab ak a, ab ak b] [] = (
 let q2 := ae ak (ah ak b);
 let q1 := ah ak a;
 let q := ai 23 [(1, ab ak q2), (5, ab ak (ae ak q1)), (6, aa 0)]; .ag [q1.length = a.length * 3, List.all q1 V.one = true, 0 = 0, 0 = 0, 0 + a.length <= 9223372036854775807, (0 + a.length) * 32 <= 140737488355328] (.bind
  (joinF (ae ak q1) q2) fun y0 => .ag [St.mk (ai 23 [(1, ab ak b), (5, .dsl (0 + a.length) false q1), (6, aa 0)]) [] [] = St.mk q [] [], aV (Env.P AT) 0 (blk Tryz.prog sR 0) (St.mk q [] []) (Ex.exit 0) (St.mk (ai
  23 [(5, ab ak y0)]) [] [])] (.done (aj.mk (ab ak y0) [] []))) : T _) := (T.force_eq _).symm.trans (by kernel_rfl)
def z8 (a b o : aU) (i : Int) : St := ⟨ai 29 [(0, ab ak a), (1, ab ak b), (5, .sl 0 0 o.length false), (6, .int .i64 i)], [some ([.aJ (ah ak o)], nT)], []⟩
def WB : Ex -> Kp := fun ex => match ex with
 | .normal => { keep := [0, 1, 5, 6] }
 | _ => { keep := [5] }
theorem JY (a b o : aU) (i : Int) : bx dJ 0 WB (lp Tryz.prog sS 0) (z8 a b o i) = (
 let q := List.getD (ae ak (ah ak a)) i.toNat (At.mk (0 : Int) (0 : Int) []);
 let q1 : List Prop := [0 <= i /\ i < (↑a.length : Int), List.take 3 (List.drop (i.toNat * 3) (ah ak a)) = ak q];
 let q2 := IntKind.i64.wrap (i + 1);
 let q3 : Hp := [some ([.aJ (ah ak o)], 143)]; bif decide (i < (↑a.length : Int)) then .ag q1 (.bind (cd (ae ak (ah ak b)) (At.mk q.kind q.n q.t)) fun y0 => .ag [ao (Env.P dJ) 210 [ab ak b, .agg (ak q)] []
  (aj.mk (.bool y0) [] [])] (bif !y0 then .ag q1 (.ag [0 = 0, List.length (ah ak o) = o.length * 3, o.length + 1 <= 9223372036854775807, (o.length + 1) * 32 <= 140737488355328] (.done (Ex.normal, St.mk (ai 29 [(0, ab ak a),
  (1, ab ak b), (5, .sl 0 0 (o.length + 1) false), (6, aa q2)]) [some ([.aJ (ah ak o ++ (ak q))], 143)] []))) else .done (Ex.normal, St.mk (ai 29 [(0, ab ak a), (1, ab ak b), (5, .sl 0 0 o.length false), (6, aa
  q2)]) q3 []))) else .done (Ex.exit 0, St.mk (ai 29 [(5, .sl 0 0 o.length false)]) q3 []) : T _) := by kernel_rfl
noncomputable def UT : Nat -> St -> Option bT := fun id s => match id, s.tm.get 0, s.tm.get 1 with
 | 0, .dsl _ _ cs, .dsl _ _ ds => some ⟨dr (ae ak cs) (ae ak ds), fun y => .one { keep := [0, 1, 5, 6], ic := [5] } (z8 (ae ak cs) (ae ak ds) [] 0) (.exit 0) ⟨ai 29 [(5, .sl 0 0 y.length false)], [some ([.aJ (ah ak y)], nT)], []⟩⟩
 | _, _, _ => none
noncomputable def AW : Env := { P := Tryz.prog, vw := pW, res := zK, ls := UT }
theorem VT (a b : aU) : fnT AW 0 sS [ab ak a, ab ak b] [] = (
 let q2 := ae ak (ah ak a);
 let q3 := ae ak (ah ak b);
 let q := ai 29 [(0, ab ak q2), (1, ab ak q3), (5, .sl 0 0 0 false), (6, aa 0)];
 let q1 : Hp := [some ([.aJ []], 143)]; .bind (dr q2 q3) fun y0 => .ag [St.mk (ai 29 [(0, ab ak a), (1, ab ak b), (5, .sl 0 0 0 false), (6, aa 0)]) q1 [] = St.mk q q1 [], aV (Env.P AW) 0 (blk Tryz.prog sS 0)
  (St.mk q q1 []) (Ex.exit 0) (St.mk (ai 29 [(5, .sl 0 0 y0.length false)]) [some ([.aJ (ah ak y0)], 143)] [])] (.done (aj.mk (ab ak y0) [] [])) : T _) := (T.force_eq _).symm.trans (by kernel_rfl)
theorem PT (c : bt) : fnT dJ 0 Cb [.agg (ba c)] [] = (
 bif c.min == 0 then .done (aj.mk (.dsl 0 false []) [] []) else bif c.kind == 1 then .done (aj.mk (.dsl 1 false [aa c.kind, aa (if (if 0 < c.high then (0 : Int) else c.high) > c.low then if 0 < c.high then (0 : Int) else c.high else
  c.low), .str []]) [] []) else .done (aj.mk (.dsl 1 false [aa c.kind, aa 0, .str []]) [] []) : T _) := by kernel_rfl
theorem Xl (f a b : Int) : fnT dJ 0 Co [.int .i64 f, .int .i64 a, .int .i64 b] [] = (
 let q := IntKind.i64.wrap (Int.tdiv a b);
 let q1 := IntKind.i64.wrap (a + b);
 let q2 := (1000000000 : Int);
 let q3 := IntKind.i64.wrap (a - b);
 let q4 := IntKind.i64.wrap (a * b);
 let q5 := Int.tmod a b; bif f == 1 then .bind (bz q1 (-1000000000 : Int) q2) fun y0 => .ag [ao (Env.P dJ) 51 [aa q1, aa (-1000000000 : Int), aa 1000000000] [] (aj.mk (.bool y0) [] [])] (.done (aj.mk (.tup [aa q1, .bool y0])
  [] [])) else bif f == 2 then .bind (bz q3 (-1000000000 : Int) q2) fun y1 => .ag [ao (Env.P dJ) 51 [aa q3, aa (-1000000000 : Int), aa 1000000000] [] (aj.mk (.bool y1) [] [])] (.done (aj.mk (.tup [aa q3, .bool y1]) [] []))
  else bif f == 3 then .bind (bz q4 (-1000000000 : Int) q2) fun y2 => .ag [ao (Env.P dJ) 51 [aa q4, aa (-1000000000 : Int), aa 1000000000] [] (aj.mk (.bool y2) [] [])] (.done (aj.mk (.tup [aa q4, .bool y2]) [] [])) else bif b
  == 0 then .done (aj.mk (.tup [aa 0, .bool false]) [] []) else .ag [b ≠ (0 : Int)] (bif f == 5 then .ag [b ≠ (0 : Int)] (.bind (bz q5 (-1000000000 : Int) q2) fun y3 => .ag [ao (Env.P dJ) 51 [aa q5, aa (-1000000000 : Int),
  aa 1000000000] [] (aj.mk (.bool y3) [] [])] (.done (aj.mk (.tup [aa q5, .bool y3]) [] []))) else .bind (bz q (-1000000000 : Int) q2) fun y4 => .ag [ao (Env.P dJ) 51 [aa q, aa (-1000000000 : Int), aa 1000000000] [] (aj.mk
  (.bool y4) [] [])] (.done (aj.mk (.tup [aa q, .bool y4]) [] []))) : T _) := by kernel_rfl
theorem OJ (t : Tb) (r : Rw) (nm : List UInt8) : fnT dJ 0 B1 [.agg (aq t), .agg (av r), .str nm] [] = (
 let q := ah a7 r.cells; .bind (bf (bw t.name (ah ba t.aw) (ah aN t.uniq) t.root) nm) fun y0 =>
 let q1 := List.getD (ae a7 q) y0.toNat []; .ag [ao (Env.P dJ) 178 [.agg (aq t), .str nm] [] (aj.mk (aa y0) [] [])] (bif decide (y0 < 0) then .done (aj.mk (.dsl 1 false [aa 4, aa r.id, .str []]) [] []) else .ag [0 <=
  y0 /\ y0 < (↑r.cells.length : Int), List.take 1 (List.drop (y0.toNat * 1) q) = [ab ak q1]] (.done (aj.mk (ab ak q1) [] []))) : T _) := (T.force_eq _).symm.trans (by kernel_rfl)
theorem Ue (a b : aU) (ha : a.length <= 1000) (hb : b.length <= 1000) : ao Tryz.prog sR [ab ak a, ab ak b] [] ⟨ab ak (joinF a b), [], []⟩ := by
 have hl := Jy b hb b.length 0 a af af
 rw [List.drop_zero] at hl
 refine bh (E := AT) follows named (Ud a b) (by simp) ?_
 simp only [T.WP, All, aA, bq.ae, bq.length, bq.all, Nat.zero_add]
 refine ⟨aK, ?_⟩
 rintro y rfl
 exact ⟨⟨bn, .bg hl⟩, aQ⟩
theorem VU (a b : aU) (n : Nat) (hn : n < a.length) : dr (a.take (n + 1)) b = dr (a.take n) b ++ (bif !cd b (a.getD n ⟨0, 0, []⟩) then [a.getD n ⟨0, 0, []⟩] else []) := by
 unfold dr
 rw [j5 ⟨0, 0, []⟩ hn, List.filter_append]
 congr 1
theorem JZ (a b : aU) (ha : a.length <= 1048576) (hb : b.length <= 1048576) : ∀ (m n : Nat), n + m = a.length ->
  a8 Tryz.prog 0 (lp Tryz.prog sS 0) (z8 a b (dr (a.take n) b) n) (.exit 0) ⟨ai 29 [(5, .sl 0 0 (dr a b).length false)], [some ([.aJ (ah ak (dr a b))], nT)], []⟩
 | 0, n, hn => by
  have hn : n = a.length := hn
  subst hn
  rw [List.take_length]
  refine bl (E := dJ) follows named (JY a b (dr a b) (a.length : Nat)) ?_
  simp only [az, T.WP, All, aB, aC, aA]
  exact ⟨fun h => af, fun _ => ⟨rfl, rfl⟩⟩
 | m + 1, n, hn => by
  have aL := bq.at a ⟨0, 0, []⟩ n 3 af rfl
  have ih := JZ a b ha hb m (n + 1) af
  have w1 : IntKind.i64.wrap ((n : Int) + 1) = ((n + 1 : Nat) : Int) := bE af
  have cC : (dr (a.take n) b).length <= 1048576 := by
   refine Nat.le_trans (List.length_filter_le _ _) ?_
   rw [List.length_take]; omega
  rw [VU a b n af] at ih
  refine bl (E := dJ) follows named (JY a b (dr (a.take n) b) (n : Nat)) ?_
  simp only [az, T.WP, All, aB, aC, aA, w1, bq.ae, bq.length, Int.toNat_natCast]
  refine ⟨fun _ => ⟨⟨aK, aL⟩, ?_⟩, fun h => af⟩
  rintro y rfl
  refine ⟨CK _ _ af, fun h => ?_, fun h => ?_⟩
  ·rw [h, cond_true] at ih
   refine ⟨⟨aK, aL⟩, aK, ?_⟩
   simp only [z8, dU, ak, List.length_append, List.length_singleton] at ih ⊢
   exact ih
  ·rw [h, cond_false, List.append_nil] at ih
   exact ih
theorem DT (a b : aU) (ha : a.length <= 1048576) (hb : b.length <= 1048576) : ao Tryz.prog sS [ab ak a, ab ak b] [] ⟨ab ak (dr a b), [], []⟩ := by
 have hl := JZ a b ha hb a.length 0 af
 refine bh (E := AW) follows named (VT a b) (by simp) ?_
 simp only [T.WP, All, aA, bq.ae]
 rintro y rfl
 exact ⟨⟨bn, .bg hl⟩, aQ⟩
theorem PV (c : bt) : ao Tryz.prog Cb [.agg (ba c)] [] ⟨ab ak (gR c), [], []⟩ := by
 refine bh (E := dJ) follows named (PT c) (by simp) ?_
 simp only [az, T.WP, aD, aE, aF]
 unfold gR
 refine ⟨fun h => ?_, fun h => ⟨fun h2 => ?_, fun h2 => ?_⟩⟩
 ·rw [h]; exact aQ
 ·rw [h2, show (c.min == 0) = false by simpa using h]
  have hm : (if (if 0 < c.high then 0 else c.high) > c.low then if 0 < c.high then 0 else c.high else c.low) = max c.low (min c.high 0) := by
   have e1 : (if 0 < c.high then (0 : Int) else c.high) = min c.high 0 := by split <;> omega
   rw [e1]
   split <;> omega
  rw [hm]
  exact aQ
 ·rw [show (c.min == 0) = false by simpa using h, show (c.kind == 1) = false by simpa using h2]
  exact aQ
theorem Xn (f a b : Int) : ao Tryz.prog Co [.int .i64 f, .int .i64 a, .int .i64 b] [] ⟨.tup [.int .i64 (gv f a b).1, .bool (gv f a b).2], [], []⟩ := by
 refine bh (E := dJ) follows named (Xl f a b) (by simp) ?_
 simp only [az, T.WP, All, aA, aD, aE, aF]
 unfold gv
 refine ⟨fun h1 => ?_, fun h1 => ⟨fun h2 => ?_, fun h2 => ⟨fun h3 => ?_, fun h3 => ⟨fun h4 => ?_, fun h4 => ⟨h4, fun h5 => ⟨h4, ?_⟩, fun h5 => ?_⟩⟩⟩⟩⟩
 ·rw [h1]; rintro y rfl; exact ⟨nJ _ _ _, aQ⟩
 ·rw [h2]; rintro y rfl; exact ⟨nJ _ _ _, aQ⟩
 ·rw [h3]; rintro y rfl; exact ⟨nJ _ _ _, aQ⟩
 ·rw [show (f == 1) = false by simpa using h1, show (f == 2) = false by simpa using h2, show (f == 3) = false by simpa using h3, h4]; exact aQ
 ·rw [h5, show (b == 0) = false by simpa using h4]; rintro y rfl; exact ⟨nJ _ _ _, aQ⟩
 ·rw [show (f == 1) = false by simpa using h1, show (f == 2) = false by simpa using h2, show (f == 3) = false by simpa using h3, show (b == 0) = false by simpa using h4, show (f == 5) = false by simpa using h5]
  rintro y rfl; exact ⟨nJ _ _ _, aQ⟩
theorem GI (t : Tb) (r : Rw) (nm : List UInt8) (ht : t.aw.length <= 1048576) (hr : 0 <= bf t nm -> (bf t nm).toNat < r.cells.length) : ao Tryz.prog B1 [.agg (aq t), .agg (av r), .str nm] [] ⟨ab ak (dS t r nm), [], []⟩ := by
 refine bh (E := dJ) follows named (OJ t r nm) (by simp) ?_
 simp only [az, T.WP, All, aB, aC, aA, cm, bV.ae]
 unfold dS
 rintro y rfl
 refine ⟨ou t nm ht, fun h => ?_, fun h => ?_⟩
 ·rw [decide_eq_true h]; exact aQ
 ·rw [decide_eq_false h]
  have hr := hr af
  have aL := bV.at' r.cells [] (bf t nm) 1 ⟨af, af⟩ rfl
  exact ⟨⟨aK, aL⟩, aQ⟩
abbrev Ci : Nat := 192
abbrev oB : Nat := 117
abbrev qv : Nat := 53
structure ji (t : Tb) (r : Rw) : Prop where
 s : ir r
 n : r.cells.length = t.aw.length
 k : t.aw.length <= 1048576
structure j9 (c : a6) : Prop where
 n : c.val.length <= 1048576
 f : c.func = 1 \/ c.func = 2 \/ c.func = 7 \/ c.func = 8 \/ c.val ≠ []
theorem mi {t : Tb} {nm : List UInt8} (h : 0 <= bf t nm) : (bf t nm).toNat < t.aw.length := (s7 (p := fun c : bt => c.name == nm) bt.zero h).1
theorem ji.at {t : Tb} {r : Rw} (h : ji t r) (nm : List UInt8) : 0 <= bf t nm -> (bf t nm).toNat < r.cells.length := fun h0 => by
 rw [h.n]; exact mi h0
theorem ji.BE {t : Tb} {r : Rw} (h : ji t r) (nm : List UInt8) : (dS t r nm).length <= 1048576 := by
 unfold dS
 by_cases h0 : bf t nm < 0
 ·rw [decide_eq_true h0]; simp
 ·rw [decide_eq_false h0, cond_false]
  exact h.s.d _ (bP [] (h.at nm af))
theorem zr (a b : Nat) : (((a : Nat) : Int) == (b : Int)) = (a == b) := by
 rw [Bool.eq_iff_iff, beq_iff_eq, beq_iff_eq]; omega
theorem VH (t : Tb) (r : Rw) (c : a6) : fnT dJ 0 Ci [.agg (aq t), .agg (av r), .agg (aH c)] [] = (
 let q2 := ah ak c.val;
 let q4 := ae ak q2;
 let q1 := At.mk (0 : Int) (0 : Int) [];
 let q := List.getD q4 0 q1;
 let q3 := (↑c.val.length : Int); .bind (dS (bw t.name (ah ba t.aw) (ah aN t.uniq) t.root) (Rw.mk r.id (ae a7 (ah a7 r.cells))) c.aG) fun y0 =>
 let q6 := ah ak y0;
 let q8 := ae ak q6;
 let q5 := List.getD q8 0 q1;
 let q7 := decide (ae ak q6 = ae ak q2); .ag [ao (Env.P dJ) 242 [.agg (aq t), .agg (av r), .str c.aG] [] (aj.mk (ab ak y0) [] [])] (bif c.func == 1 then .bind q7 fun y1 => .ag [ao (Env.P dJ) 215 [ab ak
  y0, ab ak c.val] [] (aj.mk (.bool y1) [] [])] (.done (aj.mk (.bool y1) [] [])) else bif c.func == 2 then .bind q7 fun y2 => .ag [ao (Env.P dJ) 215 [ab ak y0, ab ak c.val] [] (aj.mk (.bool y2) [] [])] (.done (aj.mk
  (.bool !y2) [] [])) else bif c.func == 7 then .bind (dr q4 q8) fun y3 => .ag [ao (Env.P dJ) 243 [ab ak c.val, ab ak y0] [] (aj.mk (ab ak y3) [] [])] (.done (aj.mk (.bool ((↑y3.length : Int) == 0)) [] [])) else
  bif c.func == 8 then .bind (dr q4 q8) fun y4 => .ag [ao (Env.P dJ) 243 [ab ak c.val, ab ak y0] [] (aj.mk (ab ak y4) [] [])] (.done (aj.mk (.bool ((↑y4.length : Int) == q3)) [] [])) else bif (↑y0.length : Int) ==
  0 then .done (aj.mk (.bool false) [] []) else .ag [(0 : Int) <= 0 /\ (0 : Int) < (↑y0.length : Int), List.take 3 (List.drop 0 q6) = ak q5] (.ag [(0 : Int) <= 0 /\ (0 : Int) < q3, List.take 3 (List.drop 0 q2) = ak q] (bif c.func
  == 3 then .done (aj.mk (.bool (decide (q5.n < q.n))) [] []) else bif c.func == 4 then .done (aj.mk (.bool (decide (q5.n <= q.n))) [] []) else bif c.func == 5 then .done (aj.mk (.bool (decide (q5.n > q.n))) [] []) else .done (aj.mk
  (.bool (decide (q5.n >= q.n))) [] [])))) : T _) := (T.force_eq _).symm.trans (by kernel_rfl)
theorem VN {t : Tb} {r : Rw} {c : a6} (hr : ji t r) (hc : j9 c) : ao Tryz.prog Ci [.agg (aq t), .agg (av r), .agg (aH c)] [] ⟨.bool (cN t r c), [], []⟩ := by
 have lD := GI t r c.aG hr.k (hr.at c.aG)
 have fL := hr.BE c.aG
 refine bh (E := dJ) follows named (VH t r c) (by simp) ?_
 simp only [az, T.WP, All, aA, aD, aE, aF, bq.ae, bV.ae, cm]
 unfold cN
 dsimp only
 rintro d e
 have e : d = dS t r c.aG := e
 rw [<- e] at lD fL ⊢
 clear e
 refine ⟨lD, fun h1 => ?_, fun h1 => ⟨fun h2 => ?_, fun h2 => ⟨fun h7 => ?_, fun h7 => ⟨fun h8 => ?_, fun h8 => ?_⟩⟩⟩⟩
 ·rw [h1]; rintro y rfl; exact ⟨zQ _ _ fL, aQ⟩
 ·rw [h2]; rintro y rfl; exact ⟨zQ _ _ fL, aQ⟩
 ·rw [h7]; rintro y rfl; exact ⟨DT _ _ hc.n fL, by rw [show ((((dr c.val d).length : Nat) : Int) == 0) = ((dr c.val d).length == 0) from zr _ 0]; rfl, rfl, by simp⟩
 ·rw [h8]; rintro y rfl; exact ⟨DT _ _ hc.n fL, by rw [zr]; rfl, rfl, by simp⟩
 ·rw [show (c.func == 1) = false by simpa using h1, show (c.func == 2) = false by simpa using h2, show (c.func == 7) = false by simpa using h7, show (c.func == 8) = false by simpa using h8]
  simp only [cond_false]
  refine ⟨fun h0 => ?_, fun h0 => ?_⟩
  ·rw [show (d.length == 0) = true by simpa using h0]; exact aQ
  ·have hv : c.val ≠ [] := by
    rcases hc.f with h | h | h | h | h
    ·exact absurd h h1
    ·exact absurd h h2
    ·exact absurd h h7
    ·exact absurd h h8
    ·exact h
   have fa : 0 < c.val.length := List.length_pos_iff.2 hv
   have a1 := bq.at d ⟨0, 0, []⟩ 0 3 af rfl
   have a2 := bq.at c.val ⟨0, 0, []⟩ 0 3 fa rfl
   rw [Nat.zero_mul] at a1 a2
   rw [show (d.length == 0) = false by simpa using h0]
   refine ⟨⟨aK, a1⟩, ⟨aK, a2⟩, fun h3 => ?_, fun h3 => ⟨fun h4 => ?_, fun h4 => ⟨fun h5 => ?_, fun h5 => ?_⟩⟩⟩
   ·rw [h3]; exact aQ
   ·rw [h4]; exact aQ
   ·rw [h5]; exact aQ
   ·rw [show (c.func == 3) = false by simpa using h3, show (c.func == 4) = false by simpa using h4, show (c.func == 5) = false by simpa using h5]; exact aQ
noncomputable def wc : cP := fun f vs hp =>
 bif Nat.beq f Ci then (match vs with | [.agg [.str tn, .dsl _ _ cc, .dsl _ _ uu, .bool r], .agg [.int _ d, .dsl _ _ cs], .agg [.str co, .int _ fn, .dsl _ _ va]] => some ⟨cN (bw tn cc uu r) ⟨d, ae a7 cs⟩ ⟨co, fn, ae ak va⟩, fun y => ⟨.bool y, [], []⟩⟩ | _ => none) else
 bif Nat.beq f oB then (match vs with | [.agg [.str tn, .dsl _ _ cc, .dsl _ _ uu, .bool r], .agg [.int _ d, .dsl _ _ cs], .dsl _ _ qs] => some ⟨cE (bw tn cc uu r) ⟨d, ae a7 cs⟩ (ae aH qs), fun y => ⟨.bool y, [], []⟩⟩ | _ => none) else
 bif Nat.beq f qv then (match vs with | [.agg [.str tn, .dsl _ _ cc, .dsl _ _ uu, .bool r], .dsl _ _ rs, .dsl _ _ qs] => some ⟨bK (bw tn cc uu r) (ae av rs) (ae aH qs), fun y => ⟨ab aN y, [], []⟩⟩ | _ => none) else zK f vs hp
noncomputable def xf : Vw := fun t cs i => bif Nat.beq t Fs then some (aH ((ae aH cs).getD i a6.zero)) else pW t cs i
noncomputable def pX : Env := { P := Tryz.prog, vw := xf, res := wc }
def wv (t : Tb) (r : Rw) (l : List a6) (i : Int) : St := ⟨ai 22 [(2, ab aH l), (3, .ptr 0 0), (4, .ptr 1 0), (7, .int .i64 i)], [some (aq t, fO), some (av r, dy)], []⟩
def J5 : Ex -> Kp := fun ex => match ex with
 | .normal => { keep := [2, 3, 4, 7] }
 | .ret => { keep := [6] }
 | _ => { keep := [] }
theorem N3 (t : Tb) (r : Rw) (l : List a6) (i : Int) : bx pX 0 J5 (lp Tryz.prog oB 0) (wv t r l i) = (
 let q := List.getD (ae aH (ah aH l)) i.toNat (a6.mk [] (0 : Int) []); bif decide (i < (↑l.length : Int)) then .ag [0 <= i /\ i < (↑l.length : Int), List.take 3 (List.drop (i.toNat * 3) (ah aH l)) = (aH q)] (.bind
  (cN (bw t.name (ah ba t.aw) (ah aN t.uniq) t.root) (Rw.mk r.id (ae a7 (ah a7 r.cells))) (a6.mk q.aG q.func (ae ak (ah ak q.val)))) fun y0 => .ag [ao (Env.P pX) 192 [.agg (aq t), .agg
  (av r), .agg (aH q)] [] (aj.mk (.bool y0) [] [])] (bif !y0 then .done (Ex.ret, St.mk (ai 22 [(6, .bool false)]) [] []) else .done (Ex.normal, St.mk (ai 22 [(2, ab aH l), (3, .ptr 0 0), (4, .ptr 1 0), (7, aa
  (IntKind.i64.wrap (i + 1)))]) [some ((aq t), 44), some ((av r), 53)] []))) else .done (Ex.exit 0, St.mk (ai 22 []) [] []) : T _) := by kernel_rfl
theorem N5 {t : Tb} {r : Rw} {l : List a6} (hr : ji t r) (hc : ∀ c ∈ l, j9 c) (hl : l.length <= 1048576) :
  (cE t r l = true -> a8 Tryz.prog 0 (lp Tryz.prog oB 0) (wv t r l 0) (.exit 0) ⟨ai 22 [], [], []⟩) /\
  (cE t r l = false -> a8 Tryz.prog 0 (lp Tryz.prog oB 0) (wv t r l 0) .ret ⟨ai 22 [(6, .bool false)], [], []⟩) := by
 have e : cE t r l = allN (fun i => cN t r (l.getD i ⟨[], 0, []⟩)) l.length 0 := (om (fun c => cN t r c) ⟨[], 0, []⟩ l).symm
 rw [e]
 refine ij (E := pX) (nf := J5) (st := fun i => wv t r l (i : Nat)) (n := l.length) (fun i => cN t r (l.getD i ⟨[], 0, []⟩)) follows named (by simp) (by simp) (fun i => N3 t r l (i : Nat)) (fun i hi => ?_) ?_ l.length 0 (by simp)
 ·have aL := cg.at l ⟨[], 0, []⟩ i 3 hi rfl
  have hm := VN hr (hc _ (bP ⟨[], 0, []⟩ hi))
  have w1 : IntKind.i64.wrap ((i : Int) + 1) = ((i + 1 : Nat) : Int) := bE af
  simp only [az, T.WP, All, aB, aC, aA, Int.toNat_natCast, cg.ae, bq.ae, bV.ae, cm, w1]
  refine ⟨fun _ => ⟨⟨aK, aL⟩, ?_⟩, fun h => af⟩
  rintro y rfl
  refine ⟨hm, fun h => ?_, fun h => ?_⟩
  ·have h' : cN t r (l.getD i ⟨[], 0, []⟩) = false := (Bool.not_eq_true' _).mp h
   rw [h']; rfl
  ·have h' : cN t r (l.getD i ⟨[], 0, []⟩) = true := (Bool.not_eq_false' _).mp h
   rw [h']; rfl
 ·simp only [az, T.WP, All, aB, aC, aA]
  exact ⟨fun h => af, fun _ => trivial⟩
noncomputable def Ux : Nat -> St -> Option bT := fun id s => match id, s.tm.get 2, s.hp with
 | 0, .dsl _ _ qs, some ([.str tn, .dsl _ _ cc, .dsl _ _ uu, .bool q], _) :: some ([.int _ d, .dsl _ _ cs], _) :: _ => some ⟨cE (bw tn cc uu q) ⟨d, ae a7 cs⟩ (ae aH qs), fun y => .two { keep := [2, 3, 4, 7] } (wv (bw tn cc uu q) ⟨d, ae a7 cs⟩ (ae aH qs) 0) y (.exit 0) ⟨ai 22 [], [], []⟩ .ret ⟨ai 22 [(6, .bool false)], [], []⟩⟩
 | _, _, _ => none
noncomputable def xl : Env := { P := Tryz.prog, vw := xf, res := wc, ls := Ux }
theorem N4 (t : Tb) (r : Rw) (l : List a6) : fnT xl 0 oB [.agg (aq t), .agg (av r), ab aH l] [] = (
 let q2 := bw t.name (ah ba t.aw) (ah aN t.uniq) t.root;
 let q3 := Rw.mk r.id (ae a7 (ah a7 r.cells));
 let q : Hp := [some ((aq q2), 44), some ((av q3), 53)];
 let q4 := ae aH (ah aH l);
 let q1 := ai 22 [(2, ab aH q4), (3, .ptr 0 0), (4, .ptr 1 0), (7, aa 0)]; .bind (cE q2 q3 q4) fun y0 => .ag [St.mk (ai 22 [(2, ab aH l), (3, .ptr 0 0), (4, .ptr 1 0), (7, aa 0)]) [some ((aq t), 44), some ((av
  r), 53)] [] = St.mk q1 q []] (bif y0 then .ag [aV (Env.P xl) 0 (blk Tryz.prog oB 0) (St.mk q1 q []) (Ex.exit 0) (St.mk (ai 22 []) [] [])] (.done (aj.mk (.bool true) [] [])) else .ag [aV (Env.P xl) 0 (blk Tryz.prog
  oB 0) (St.mk q1 q []) Ex.ret (St.mk (ai 22 [(6, .bool false)]) [] [])] (.done (aj.mk (.bool false) [] []))) : T _) := (T.force_eq _).symm.trans (by kernel_rfl)
theorem Bp {t : Tb} {r : Rw} {l : List a6} (hr : ji t r) (hc : ∀ c ∈ l, j9 c) (hl : l.length <= 1048576) : ao Tryz.prog oB [.agg (aq t), .agg (av r), ab aH l] [] ⟨.bool (cE t r l), [], []⟩ := by
 have h := N5 hr hc hl
 refine bh (E := xl) follows named (N4 t r l) (by simp) ?_
 simp only [az, T.WP, All, aA, cg.ae, bV.ae, cm]
 rintro y rfl
 refine ⟨bn, fun e => ⟨.bg (h.1 e), ?_⟩, fun e => ⟨.bg (h.2 e), ?_⟩⟩
 ·have e' : cE t r l = true := e
  rw [show cE t ⟨r.id, r.cells⟩ l = true from e'] at *
  rw [e']; exact aQ
 ·have e' : cE t r l = false := e
  rw [e']; exact aQ
abbrev mU : Nat := 3
def Ab (t : Tb) (rows : List Rw) (l : List a6) (o : List Int) (i : Int) : St := ⟨ai 32 [(1, ab av rows), (2, ab aH l), (3, .ptr 0 0), (7, .sl 1 0 o.length false), (8, .int .i64 i)], [some (aq t, fO), some ([.aJ (ah aN o)], mU)], []⟩
def WU : Ex -> Kp := fun ex => match ex with
 | .normal => { keep := [1, 2, 3, 7, 8] }
 | _ => { keep := [7] }
theorem Mq (t : Tb) (rows : List Rw) (l : List a6) (o : List Int) (i : Int) : bx pX 0 WU (lp Tryz.prog qv 0) (Ab t rows l o i) = (
 let q := List.getD (ae av (ah av rows)) i.toNat (Rw.mk (0 : Int) []);
 let q1 : List Prop := [0 <= i /\ i < (↑rows.length : Int), List.take 2 (List.drop (i.toNat * 2) (ah av rows)) = (av q)];
 let q2 := IntKind.i64.wrap (i + 1);
 let q3 := ah aN o; bif decide (i < (↑rows.length : Int)) then .ag q1 (.bind (cE (bw t.name (ah ba t.aw) (ah aN t.uniq) t.root) (Rw.mk q.id (ae a7 (ah a7 q.cells))) (ae aH (ah aH l))) fun
  y0 => .ag [ao (Env.P pX) 117 [.agg (aq t), .agg (av q), ab aH l] [] (aj.mk (.bool y0) [] [])] (bif y0 then .ag q1 (.ag [0 = 0, q3.length = o.length * 1, o.length + 1 <= 9223372036854775807, (o.length + 1) * 8 <=
  140737488355328] (.done (Ex.normal, St.mk (ai 32 [(1, ab av rows), (2, ab aH l), (3, .ptr 0 0), (7, .sl 1 0 (o.length + 1) false), (8, aa q2)]) [some ((aq t), 44), some ([.aJ (ah aN o ++ [aa q.id])], 3)] [])))
  else .done (Ex.normal, St.mk (ai 32 [(1, ab av rows), (2, ab aH l), (3, .ptr 0 0), (7, .sl 1 0 o.length false), (8, aa q2)]) [some ((aq t), 44), some ([.aJ q3], 3)] []))) else .done (Ex.exit 0, St.mk (ai 32 [(7, .sl 0
  0 o.length false)]) [some ([.aJ q3], 3)] []) : T _) := by kernel_rfl
theorem EJ (t : Tb) (rows : List Rw) (l : List a6) (n : Nat) (hn : n < rows.length) : bK t (rows.take (n + 1)) l = bK t (rows.take n) l ++ (bif cE t (rows.getD n ⟨0, []⟩) l then [(rows.getD n ⟨0, []⟩).id] else []) := by
 unfold bK
 rw [j5 ⟨0, []⟩ hn, List.filter_append, List.map_append]
 congr 1
 cases h : cE t (rows.getD n ⟨0, []⟩) l
 all_goals
  simp only [List.filter, h]
  rfl
theorem wm (t : Tb) (rows : List Rw) (l : List a6) : (bK t rows l).length <= rows.length := by
 unfold bK
 rw [List.length_map]
 exact List.length_filter_le _ _
theorem Mr {t : Tb} {rows : List Rw} {l : List a6} (hr : ∀ r ∈ rows, ji t r) (hc : ∀ c ∈ l, j9 c) (hl : l.length <= 1048576) (hn : rows.length <= 1048576) : ∀ (m n : Nat), n + m = rows.length ->
  a8 Tryz.prog 0 (lp Tryz.prog qv 0) (Ab t rows l (bK t (rows.take n) l) n) (.exit 0) ⟨ai 32 [(7, .sl 0 0 (bK t rows l).length false)], [some ([.aJ (ah aN (bK t rows l))], mU)], []⟩
 | 0, n, hk => by
  have hk : n = rows.length := hk
  subst hk
  rw [List.take_length]
  refine bl (E := pX) follows named (Mq t rows l (bK t rows l) (rows.length : Nat)) ?_
  simp only [az, T.WP, All, aB, aC, aA]
  exact ⟨fun h => by omega, fun _ => ⟨rfl, rfl⟩⟩
 | m + 1, n, hk => by
  have aL := bN.at rows ⟨0, []⟩ n 2 (by omega) rfl
  have ih := Mr hr hc hl hn m (n + 1) (by omega)
  have w1 : IntKind.i64.wrap ((n : Int) + 1) = ((n + 1 : Nat) : Int) := bE (by omega)
  have cC := wm t (rows.take n) l
  rw [List.length_take] at cC
  have ha := Bp (hr _ (bP ⟨0, []⟩ (show n < rows.length by omega))) hc hl
  rw [EJ t rows l n (by omega)] at ih
  refine bl (E := pX) follows named (Mq t rows l (bK t (rows.take n) l) (n : Nat)) ?_
  simp only [az, T.WP, All, aB, aC, aA, w1, bN.ae, cg.ae, bV.ae, ej.length, cm, Int.toNat_natCast]
  refine ⟨fun _ => ⟨⟨aK, aL⟩, ?_⟩, fun h => by omega⟩
  rintro y rfl
  refine ⟨ha, fun h => ?_, fun h => ?_⟩
  ·rw [show cE t (rows.getD n ⟨0, []⟩) l = true from h, cond_true] at ih
   refine ⟨⟨aK, aL⟩, aK, ?_⟩
   simp only [Ab, dU, aN, List.length_append, List.length_singleton] at ih ⊢
   exact ih
  ·rw [show cE t (rows.getD n ⟨0, []⟩) l = false from h, cond_false, List.append_nil] at ih
   exact ih
noncomputable def Vi : Nat -> St -> Option bT := fun id s => match id, s.tm.get 1, s.tm.get 2, s.hp with
 | 0, .dsl _ _ rs, .dsl _ _ qs, some ([.str tn, .dsl _ _ cc, .dsl _ _ uu, .bool q], _) :: _ => some ⟨bK (bw tn cc uu q) (ae av rs) (ae aH qs), fun y => .one { keep := [1, 2, 3, 7, 8], ic := [7] } (Ab (bw tn cc uu q) (ae av rs) (ae aH qs) [] 0) (.exit 0) ⟨ai 32 [(7, .sl 0 0 y.length false)], [some ([.aJ (ah aN y)], mU)], []⟩⟩
 | _, _, _, _ => none
noncomputable def A4 : Env := { P := Tryz.prog, vw := xf, res := wc, ls := Vi }
theorem Z2 (t : Tb) (rows : List Rw) (l : List a6) : fnT A4 0 qv [.agg (aq t), ab av rows, ab aH l] [] = (
 let q := bw t.name (ah ba t.aw) (ah aN t.uniq) t.root;
 let q3 := ae av (ah av rows);
 let q4 := ae aH (ah aH l);
 let q1 := ai 32 [(1, ab av q3), (2, ab aH q4), (3, .ptr 0 0), (7, .sl 1 0 0 false), (8, aa 0)];
 let q2 : Hp := [some ((aq q), 44), some ([.aJ []], 3)]; .bind (bK q q3 q4) fun y0 => .ag [St.mk (ai 32 [(1, ab av rows), (2, ab aH l), (3, .ptr 0 0), (7, .sl 1 0 0 false), (8, aa 0)]) [some ((aq t), 44), some
  ([.aJ []], 3)] [] = St.mk q1 q2 [], aV (Env.P A4) 0 (blk Tryz.prog qv 0) (St.mk q1 q2 []) (Ex.exit 0) (St.mk (ai 32 [(7, .sl 0 0 y0.length false)]) [some ([.aJ (ah aN y0)], 3)] [])] (.done (aj.mk (ab aN y0) []
  [])) : T _) := (T.force_eq _).symm.trans (by kernel_rfl)
theorem My {t : Tb} {rows : List Rw} {l : List a6} (hr : ∀ r ∈ rows, ji t r) (hc : ∀ c ∈ l, j9 c) (hl : l.length <= 1048576) (hn : rows.length <= 1048576) : ao Tryz.prog qv [.agg (aq t), ab av rows, ab aH l] [] ⟨ab aN (bK t rows l), [], []⟩ := by
 have h := Mr hr hc hl hn rows.length 0 af
 refine bh (E := A4) follows named (Z2 t rows l) (by simp) ?_
 simp only [T.WP, All, aA, cg.ae, bN.ae, cm]
 rintro y rfl
 exact ⟨⟨bn, .bg h⟩, aQ⟩
abbrev mo : Nat := 277
abbrev mq : Nat := 258
def numsW (f b : Int) : aU -> aU -> Option aU
 | [], out => some out
 | a :: t, out => bif (gv f a.n b).2 then numsW f b t (dN out ⟨1, (gv f a.n b).1, []⟩) else none
def nL (d : aU) (m : Mt) : Option aU := bif m.func == 6 then some (joinF d m.val) else bif m.func == 7 then some (dr d m.val) else numsW m.func (m.val.getD 0 .zero).n d []
def en (c : bt) (d : aU) (m : Mt) : aU × Int := match nL d m with
 | none => ([], 4)
 | some v => bif cX c v != 0 then ([], cX c v) else (v, 0)
structure p6 (m : Mt) : Prop where
 n : m.val.length <= 1000
 f : m.func = 6 \/ m.func = 7 \/ m.val ≠ []
def uc (c : bt) (m : Mt) (d o : aU) (i : Int) : St := ⟨ai 65 [(1, ab ak d), (3, .ptr 0 0), (5, .ptr 1 0), (8, ab ak o), (9, .int .i64 i)], [some (ba c, xc), some (b8 m, Ap)], []⟩
def WC : Ex -> Kp := fun ex => match ex with
 | .normal => { keep := [1, 3, 5, 8, 9] }
 | .ret => { keep := [6, 7], perm := some ([], []) }
 | _ => { keep := [3, 8] }
theorem KL (c : bt) (m : Mt) (d o : aU) (i : Int) : bx dJ 0 WC (lp Tryz.prog mo 1) (uc c m d o i) = (
 let q2 := At.mk (0 : Int) (0 : Int) [];
 let q := List.getD (ae ak (ah ak d)) i.toNat q2;
 let q1 := List.getD (ae ak (ah ak m.val)) 0 q2; bif decide (i < (↑d.length : Int)) then .ag [0 <= i /\ i < (↑d.length : Int), List.take 3 (List.drop (i.toNat * 3) (ah ak d)) = ak q] (.ag [(0 : Int) <= 0 /\ (0 : Int) <
  (↑m.val.length : Int), List.take 3 (List.drop 0 (ah ak m.val)) = ak q1] (.bind (gv m.func q.n q1.n) fun y0 => .ag [ao (Env.P dJ) 286 [aa m.func, aa q.n, aa q1.n] [] (aj.mk (.tup [aa y0.1, .bool y0.2]) [] [])] (bif
  !y0.2 then .done (Ex.ret, St.mk (ai 65 [(6, .dsl 0 false []), (7, aa 4)]) [] []) else .bind (dN (ae ak (ah ak o)) (At.mk (1 : Int) y0.1 [])) fun y1 => .ag [ao (Env.P dJ) 186 [ab ak o, .agg [aa 1, aa y0.1,
  .str []]] [] (aj.mk (ab ak y1) [] [])] (.done (Ex.normal, St.mk (ai 65 [(1, ab ak d), (3, .ptr 0 0), (5, .ptr 1 0), (8, ab ak y1), (9, aa (IntKind.i64.wrap (i + 1)))]) [some (ba c, 85), some ((aH m), 241)]
  []))))) else .done (Ex.exit 1, St.mk (ai 65 [(3, .ptr 0 0), (8, ab ak o)]) [some (ba c, 85)] []) : T _) := by kernel_rfl
def KM (c : bt) (o : aU) : St := ⟨ai 65 [(3, .ptr 0 0), (8, ab ak o)], [some (ba c, xc)], []⟩
def D5 : St := ⟨ai 65 [(6, .dsl 0 false []), (7, .int .i64 4)], [], []⟩
theorem KN (c : bt) (m : Mt) (d : aU) (hm : m.val ≠ []) (hd : d.length <= 1000) : ∀ (k i : Nat) (o : aU), i + k = d.length -> o.length <= i ->
  (∀ out, numsW m.func (m.val.getD 0 .zero).n (d.drop i) o = some out -> a8 Tryz.prog 0 (lp Tryz.prog mo 1) (uc c m d o i) (.exit 1) (KM c out)) /\
  (numsW m.func (m.val.getD 0 .zero).n (d.drop i) o = none -> a8 Tryz.prog 0 (lp Tryz.prog mo 1) (uc c m d o i) .ret D5)
 | 0, i, o, hi, ho => by
  have hi : i = d.length := hi
  subst hi
  rw [List.drop_length]
  refine ⟨fun out h => ?_, fun h => by simp [numsW] at h⟩
  have h' : o = out := by simpa [numsW] using h
  subst h'
  refine bl (E := dJ) follows named (KL c m d o (d.length : Nat)) ?_
  simp only [az, T.WP, All, aB, aC, aA]
  exact ⟨fun h => by omega, fun _ => ⟨rfl, rfl⟩⟩
 | k + 1, i, o, hi, ho => by
  have aL := bq.at d ⟨0, 0, []⟩ i 3 (by omega) rfl
  have fa : 0 < m.val.length := List.length_pos_iff.2 hm
  have cA := bq.at m.val ⟨0, 0, []⟩ 0 3 fa rfl
  rw [Nat.zero_mul] at cA
  have hp := oA o ⟨1, (gv m.func (d.getD i ⟨0, 0, []⟩).n (m.val.getD 0 .zero).n).1, []⟩
  have ih := KN c m d hm hd k (i + 1) (dN o ⟨1, (gv m.func (d.getD i ⟨0, 0, []⟩).n (m.val.getD 0 .zero).n).1, []⟩) (by omega) (by omega)
  have w1 : IntKind.i64.wrap ((i : Int) + 1) = ((i + 1 : Nat) : Int) := bE (by omega)
  have hn := Xn m.func (d.getD i ⟨0, 0, []⟩).n (m.val.getD 0 ⟨0, 0, []⟩).n
  rw [gh ⟨0, 0, []⟩ (show i < d.length by omega), numsW]
  have hz : (m.val.getD 0 .zero).n = (m.val.getD 0 ⟨0, 0, []⟩).n := rfl
  rw [hz] at ih ⊢
  have key : (∀ {ex : Ex} {s' : St}, ((gv m.func (d.getD i ⟨0, 0, []⟩).n (m.val.getD 0 ⟨0, 0, []⟩).n).2 = true -> a8 Tryz.prog 0 (lp Tryz.prog mo 1) (uc c m d (dN o ⟨1, (gv m.func (d.getD i ⟨0, 0, []⟩).n (m.val.getD 0 ⟨0, 0, []⟩).n).1, []⟩) ((i + 1 : Nat) : Int)) ex s') -> ((gv m.func (d.getD i ⟨0, 0, []⟩).n (m.val.getD 0 ⟨0, 0, []⟩).n).2 = false -> Ex.ret = ex /\ D5 = s') -> a8 Tryz.prog 0 (lp Tryz.prog mo 1) (uc c m d o i) ex s') := by
   intro ex s' h1 h2
   refine bl (E := dJ) follows named (KL c m d o (i : Nat)) ?_
   simp only [az, T.WP, All, aB, aC, aA, w1, bq.ae, Int.toNat_natCast]
   refine ⟨fun _ => ⟨⟨aK, aL⟩, ⟨aK, cA⟩, ?_⟩, fun h => by omega⟩
   rintro y rfl
   refine ⟨hn, fun h => h2 ((Bool.not_eq_true' _).mp h), fun h => ?_⟩
   rintro z rfl
   exact ⟨zJ o _ (by omega), h1 ((Bool.not_eq_false' _).mp h)⟩
  generalize gv m.func (d.getD i ⟨0, 0, []⟩).n (m.val.getD 0 ⟨0, 0, []⟩).n = w at *
  cases hw : w.2
  ·simp only [cond_false]
   refine ⟨(fun out h => by cases h), fun _ => key (fun h => by rw [hw] at h; cases h) (fun _ => ⟨rfl, rfl⟩)⟩
  ·simp only [cond_true]
   exact ⟨fun out h => key (fun _ => ih.1 out h) (fun h => by rw [hw] at h; cases h), fun h => key (fun _ => ih.2 h) (fun h => by rw [hw] at h; cases h)⟩
noncomputable def UW : Nat -> St -> Option bT := fun id s => match id, s.tm.get 1, s.hp with
 | 1, .dsl _ _ ds, some ([.str nm, .int _ a, .int _ b, .int _ e, .int _ g, .int _ h, .str r, .bool q], _) :: some ([.str co, .int _ fn, .dsl _ _ va], _) :: _ =>
  some ⟨numsW fn ((ae ak va).getD 0 .zero).n (ae ak ds) [], fun y => .two { keep := [1, 3, 5, 8, 9], perm := some ([0, 1], []) } (uc ⟨nm, a, b, e, g, h, r, q⟩ ⟨co, fn, ae ak va⟩ (ae ak ds) [] 0) y.isSome (.exit 1) (KM ⟨nm, a, b, e, g, h, r, q⟩ (y.getD [])) .ret D5⟩
 | _, _, _ => none
noncomputable def mb : Env := { P := Tryz.prog, vw := xf, res := wc, ls := UW }
theorem V3 (c : bt) (d : aU) (m : Mt) : fnT mb 0 mo [.agg (ba c), ab ak d, .agg (b8 m)] [] = (
 let q := bt.mk c.name c.kind c.min c.max c.low c.high c.ref c.eR;
 let q5 := ae ak (ah ak d);
 let q3 := ai 65 [(1, ab ak q5), (3, .ptr 0 0), (5, .ptr 1 0), (8, .dsl 0 false []), (9, aa 0)];
 let q2 := ae ak (ah ak m.val);
 let q4 : Hp := [some (ba q, 85), some ((aH (a6.mk m.aG m.func q2)), 241)];
 let q1 := St.mk q3 q4 []; bif m.func == 6 then .bind (joinF q5 q2) fun y0 => .ag [ao (Env.P mb) 285 [ab ak d, ab ak m.val] [] (aj.mk (ab ak y0) [] [])] (.bind (cX q (ae ak (ah ak y0))) fun y1 => .ag
  [ao (Env.P mb) 191 [.agg (ba c), ab ak y0] [] (aj.mk (aa y1) [] [])] (bif y1 != 0 then .done (aj.mk (.tup [.dsl 0 false [], aa y1]) [] []) else .done (aj.mk (.tup [ab ak y0, aa 0]) [] []))) else bif m.func == 7
  then .bind (dr q5 q2) fun y2 => .ag [ao (Env.P mb) 243 [ab ak d, ab ak m.val] [] (aj.mk (ab ak y2) [] [])] (.bind (cX q (ae ak (ah ak y2))) fun y3 => .ag [ao (Env.P mb) 191 [.agg (ba c),
  ab ak y2] [] (aj.mk (aa y3) [] [])] (bif y3 != 0 then .done (aj.mk (.tup [.dsl 0 false [], aa y3]) [] []) else .done (aj.mk (.tup [ab ak y2, aa 0]) [] []))) else .bind (numsW m.func (At.n (List.getD q2 0 (At.mk (0 : Int)
  (0 : Int) []))) q5 []) fun y4 =>
 let q6 := Option.getD y4 []; .ag [St.mk (ai 65 [(1, ab ak d), (3, .ptr 0 0), (5, .ptr 1 0), (8, .dsl 0 false []), (9, aa 0)]) [some (ba c, 85), some ((aH m), 241)] [] = St.mk q3 q4 []] (bif Option.isSome y4 then .ag
  [aV (Env.P mb) 0 (blk Tryz.prog mo 1) q1 (Ex.exit 1) (St.mk (ai 65 [(3, .ptr 0 0), (8, ab ak q6)]) [some (ba q, 85)] [])] (.bind (cX (bt.mk q.name q.kind q.min q.max q.low q.high q.ref q.eR) (ae ak (ah
  ak q6))) fun y5 => .ag [ao (Env.P mb) 191 [.agg (ba q), ab ak q6] [] (aj.mk (aa y5) [] [])] (bif y5 != 0 then .done (aj.mk (.tup [.dsl 0 false [], aa y5]) [] []) else .done (aj.mk (.tup [ab ak q6, aa 0]) []
  []))) else .ag [aV (Env.P mb) 0 (blk Tryz.prog mo 1) q1 Ex.ret (St.mk (ai 65 [(6, .dsl 0 false []), (7, aa 4)]) [] [])] (.done (aj.mk (.tup [.dsl 0 false [], aa 4]) [] []))) : T _) := by kernel_rfl
theorem Jz : ∀ (b a : aU), (joinF a b).length <= a.length + b.length
 | [], a => Nat.le_refl _
 | x :: b, a => by
  rw [joinF]
  have := Jz b (dN a x)
  have := oA a x
  simp only [List.length_cons]; omega
theorem KP (f b : Int) : ∀ (d o out : aU), numsW f b d o = some out -> out.length <= o.length + d.length
 | [], o, out, h => by
  have : o = out := by simpa [numsW] using h
  subst this; simp
 | a :: d, o, out, h => by
  rw [numsW] at h
  cases hw : (gv f a.n b).2
  ·rw [hw] at h; cases h
  ·rw [hw, cond_true] at h
   have := KP f b d _ out h
   have := oA o ⟨1, (gv f a.n b).1, []⟩
   simp only [List.length_cons]; omega
theorem V4 {c : bt} {d : aU} {m : Mt} (hd : d.length <= 1000) (hm : p6 m) : ao Tryz.prog mo [.agg (ba c), ab ak d, .agg (b8 m)] [] ⟨.tup [ab ak (en c d m).1, .int .i64 (en c d m).2], [], []⟩ := by
 have C7 := hm.n
 refine bh (E := mb) follows named (V3 c d m) (by simp) ?_
 simp only [az, T.WP, All, aA, aD, aE, aF, bq.ae]
 have fin : ∀ v : aU, v.length <= 1048576 -> nL d m = some v -> ∀ y : Int, y = cX c v -> ao mb.P ng [.agg (ba c), .dsl v.length false (ah ak v)] [] ⟨.int .i64 y, [], []⟩ /\
   ((y != 0) = true -> xV ⟨.tup [.dsl 0 false [], .int .i64 y], [], []⟩ ⟨.tup [ab ak (en c d m).1, .int .i64 (en c d m).2], [], []⟩) /\
   ((y != 0) = false -> xV ⟨.tup [.dsl v.length false (ah ak v), .int .i64 0], [], []⟩ ⟨.tup [ab ak (en c d m).1, .int .i64 (en c d m).2], [], []⟩) := by
  rintro v hv hV y rfl
  refine ⟨Cr c v hv, fun h => ?_, fun h => ?_⟩
  ·unfold en; rw [hV]; dsimp only; rw [h]; exact aQ
  ·unfold en; rw [hV]; dsimp only; rw [h]; exact aQ
 refine ⟨fun h6 => ?_, fun h6 => ⟨fun h7 => ?_, fun h7 => ?_⟩⟩
 ·rintro v rfl
  refine ⟨Ue d m.val hd C7, ?_⟩
  have := Jz m.val d
  exact fin _ af (by unfold nL; rw [h6]; rfl)
 ·rintro v rfl
  refine ⟨DT d m.val af af, ?_⟩
  exact fin _ (Nat.le_trans (List.length_filter_le _ _) af) (by unfold nL; rw [h7]; rfl)
 ·have hv : m.val ≠ [] := by
   rcases hm.f with h | h | h
   ·exact absurd h h6
   ·exact absurd h h7
   ·exact h
  have hl := KN c m d hv hd d.length 0 [] af (Nat.le_refl _)
  rw [List.drop_zero] at hl
  have hV : nL d m = numsW m.func (m.val.getD 0 .zero).n d [] := by
   unfold nL
   rw [show (m.func == 6) = false by simpa using h6, show (m.func == 7) = false by simpa using h7]; rfl
  rintro y e
  have e : y = numsW m.func (m.val.getD 0 .zero).n d [] := e
  rw [<- e] at hl hV
  refine ⟨bn, fun hs => ?_, fun hs => ?_⟩
  ·obtain ⟨v, rfl⟩ := Option.isSome_iff_exists.1 hs
   have hlen := KP _ _ d [] v e.symm
   simp only [List.length_nil, Option.getD_some] at hlen ⊢
   exact ⟨.bg (hl.1 v rfl), fin v af hV⟩
  ·have hy : y = none := by simpa using hs
   subst hy
   refine ⟨.bg (hl.2 rfl), ?_⟩
   unfold en; rw [hV]; exact aQ
noncomputable def zM : cP := fun f vs hp => match vs, hp with
 | [.agg [.int _ d, .dsl n _ cs]], [] => bif Nat.beq f kN then some ⟨(), fun _ => ⟨.agg [.int .i64 d, .dsl n false cs], [], []⟩⟩ else none
 | _, _ => none
def pL (x : aM) (D : List (List Rw)) (l : List Rw) (i k : Int) : St := ⟨ai 48 [(1, .ptr 0 0), (2, .ptr 1 0), (3, .ptr 2 0), (4, .int .i64 i), (5, .sl 3 0 l.length false), (6, .int .i64 k)],
 [some (aP x, cO), some ([.dsl 0 true [], .int .i64 0], cO), some ([.sl 4 0 D.length false, .int .i64 x.next], cO), some ([.aJ (ah av l)], dy), some ([.aJ (ah aI D)], dZ)], []⟩
def WH : Ex -> Kp := fun _ => { keep := [1, 2, 3, 4, 5, 6] }
noncomputable def xE : Env := { P := Tryz.prog, vw := fv, res := zM }
theorem KT (x : aM) (D : List (List Rw)) (l : List Rw) (i k : Int) : bx xE 0 WH (lp Tryz.prog ew 2) (pL x D l i k) = (
 let q5 := ah aI x.ar;
 let q1 := List.getD (ae aI q5) i.toNat [];
 let q := List.getD (ae av (ah av q1)) k.toNat (Rw.mk (0 : Int) []);
 let q2 : List V := [aa q.id, ab a7 q.cells];
 let q3 : List Prop := [0 <= i /\ i < (↑x.ar.length : Int), List.take 1 (List.drop (i.toNat * 1) q5) = [ab av q1]];
 let q4 : List V := [.sl 4 0 D.length false, aa x.next]; .ag q3 (bif decide (k < (↑q1.length : Int)) then .ag q3 (.ag [0 <= k /\ k < (↑q1.length : Int), List.take 2 (List.drop (k.toNat * 2) (ah av q1)) = q2] (.bind PUnit.unit
  fun _ => .ag [ao (Env.P xE) 154 [.agg q2] [] (aj.mk (.agg q2) [] [])] (.ag [0 = 0, List.length (ah av l) = l.length * 2, l.length + 1 <= 9223372036854775807, (l.length + 1) * 32 <= 140737488355328] (.done (Ex.normal, St.mk
  (ai 48 [(1, .ptr 0 0), (2, .ptr 1 0), (3, .ptr 2 0), (4, aa i), (5, .sl 3 0 (l.length + 1) false), (6, aa (IntKind.i64.wrap (k + 1)))]) [some ((aP x), 29), some ([.dsl 0 true [], aa 0], 29), some (q4, 29), some ([.aJ (ah
  av l ++ q2)], 53), some ([.aJ (ah aI D)], 46)] []))))) else .done (Ex.exit 2, St.mk (ai 48 [(1, .ptr 0 0), (2, .ptr 1 0), (3, .ptr 2 0), (4, aa i), (5, .sl 3 0 l.length false), (6, aa k)]) [some ((aP x), 29), some
  ([.dsl 0 true [], aa 0], 29), some (q4, 29), some ([.aJ (ah av l)], 53), some ([.aJ (ah aI D)], 46)] [])) : T _) := (T.force_eq _).symm.trans (by kernel_rfl)
theorem KU {x : aM} (hx : kf x) (D : List (List Rw)) (i : Nat) (hi : i < x.ar.length) : ∀ (n k : Nat), k + n = (x.ar.getD i []).length ->
  a8 Tryz.prog 0 (lp Tryz.prog ew 2) (pL x D ((x.ar.getD i []).take k) i k) (.exit 2) (pL x D (x.ar.getD i []) i (x.ar.getD i []).length)
 | 0, k, hk => by
  have aL := bB.at x.ar [] i 1 hi rfl
  obtain rfl : k = (x.ar.getD i []).length := hk
  rw [List.take_length]
  refine bl (E := xE) follows named (KT x D (x.ar.getD i []) i ((x.ar.getD i []).length : Nat)) ?_
  simp only [az, T.WP, All, aB, aC, aA, bB.ae, Int.toNat_natCast]
  exact ⟨⟨aK, aL⟩, fun h => by omega, fun _ => ⟨rfl, rfl⟩⟩
 | n + 1, k, hk => by
  have aL := bB.at x.ar [] i 1 hi rfl
  have hm := bP [] hi
  have ht := hx.t _ hm
  have ih := KU hx D i hi n (k + 1) (by omega)
  generalize nE : x.ar.getD i [] = rows at *
  have cA := bN.at rows ⟨0, []⟩ k 2 (by omega) rfl
  have hr := hx.r _ hm _ (bP ⟨0, []⟩ (show k < rows.length by omega))
  have w1 : IntKind.i64.wrap ((k : Int) + 1) = ((k + 1 : Nat) : Int) := bE (by omega)
  have hl : (rows.take k).length = k := by rw [List.length_take]; omega
  refine bl (E := xE) follows named (KT x D (rows.take k) i (k : Nat)) ?_
  simp only [az, T.WP, All, aB, aC, aA, w1, bB.ae, bN.ae, Int.toNat_natCast, nE, hl, bN.length]
  refine ⟨⟨aK, aL⟩, fun _ => ⟨⟨aK, aL⟩, ⟨aK, cA⟩, ?_⟩, fun h => by omega⟩
  rintro _ -
  refine ⟨vY _ hr, aK, ?_⟩
  rw [j5 ⟨0, []⟩ (show k < rows.length by omega)] at ih
  simp only [pL, dU, av, ab, List.length_append, List.length_singleton, hl] at ih ⊢
  exact ih
def uf (x : aM) (D : List (List Rw)) (i : Int) : St := ⟨ai 48 [(1, .ptr 0 0), (2, .ptr 1 0), (3, .ptr 2 0), (4, .int .i64 i)],
 [some (aP x, cO), some ([.dsl 0 true [], .int .i64 0], cO), some ([.sl 3 0 D.length false, .int .i64 x.next], cO), some ([.aJ (ah aI D)], dZ)], []⟩
def WG : Ex -> Kp := fun ex => match ex with
 | .normal => { keep := [1, 2, 3, 4], perm := some ([0, 1, 2, 6], [3]) }
 | _ => { keep := [1, 2, 3, 4] }
noncomputable def U1 : Nat -> St -> Option bT := fun id s => match id, s.tm.get 4, s.hp with
 | 2, .int _ i, some ([.dsl _ _ cs, .int _ nx], _) :: _ => some ⟨(), fun _ => .one { keep := [1, 2, 3, 4, 5, 6], ic := [5] }
   (pL ⟨ae aI cs, nx⟩ ((ae aI cs).take i.toNat) [] i 0) (.exit 2) (pL ⟨ae aI cs, nx⟩ ((ae aI cs).take i.toNat) ((ae aI cs).getD i.toNat []) i ((ae aI cs).getD i.toNat []).length)⟩
 | _, _, _ => none
noncomputable def xD : Env := { P := Tryz.prog, vw := fv, res := zM, ls := U1 }
theorem KS (x : aM) (D : List (List Rw)) (i : Int) : bx xD 0 WG (lp Tryz.prog ew 0) (uf x D i) = (
 let q := ae aI (ah aI x.ar);
 let q4 := aM.mk q x.next;
 let q5 : List V := [.dsl 0 true [], aa 0];
 let q2 := List.take i.toNat q;
 let q7 : List V := [.sl 4 0 q2.length false, aa q4.next];
 let q8 := ah aI q2;
 let q1 : Hp := [some ((aP q4), 29), some (q5, 29), some (q7, 29), some ([.aJ []], 53), some ([.aJ q8], 46)];
 let q3 := ai 48 [(1, .ptr 0 0), (2, .ptr 1 0), (3, .ptr 2 0), (4, aa i), (5, .sl 3 0 0 false), (6, aa 0)];
 let q6 := List.getD q i.toNat []; bif decide (i < (↑x.ar.length : Int)) then .bind PUnit.unit fun _ => .ag [St.mk q3 [some ((aP x), 29), some (q5, 29), some ([.sl 4 0 D.length false, aa x.next], 29), some ([.aJ []], 53), some
  ([.aJ (ah aI D)], 46)] [] = St.mk q3 q1 [], aV (Env.P xD) 0 (blk Tryz.prog ew 2) (St.mk q3 q1 []) (Ex.exit 2) (St.mk (ai 48 [(1, .ptr 0 0), (2, .ptr 1 0), (3, .ptr 2 0), (4, aa i), (5, .sl 3 0 q6.length false), (6,
  aa (↑q6.length : Int))]) [some ((aP q4), 29), some (q5, 29), some (q7, 29), some ([.aJ (ah av q6)], 53), some ([.aJ q8], 46)] [])] (.ag [0 = 0, q8.length = q2.length * 1, q2.length + 1 <= 9223372036854775807, (q2.length +
  1) * 24 <= 140737488355328] (.done (Ex.normal, St.mk (ai 48 [(1, .ptr 0 0), (2, .ptr 1 0), (3, .ptr 2 0), (4, aa (IntKind.i64.wrap (i + 1)))]) [some ((aP q4), 29), some (q5, 29), some ([.sl 3 0 (q2.length + 1) false, aa
  q4.next], 29), some ([.aJ (ah aI q2 ++ [ab av q6])], 46)] []))) else .done (Ex.exit 0, St.mk (ai 48 [(1, .ptr 0 0), (2, .ptr 1 0), (3, .ptr 2 0), (4, aa i)]) [some ((aP x), 29), some (q5, 29), some ([.sl 3 0 D.length
  false, aa x.next], 29), some ([.aJ (ah aI D)], 46)] []) : T _) := by kernel_rfl
theorem D8 {x : aM} (hx : kf x) : ∀ (n i : Nat), i + n = x.ar.length ->
  a8 Tryz.prog 0 (lp Tryz.prog ew 0) (uf x (x.ar.take i) i) (.exit 0) (uf x x.ar x.ar.length)
 | 0, i, hi => by
  obtain rfl : i = x.ar.length := hi
  rw [List.take_length]
  refine bl (E := xD) follows named (KS x x.ar (x.ar.length : Nat)) ?_
  simp only [az, T.WP, All, aB, aC, aA]
  exact ⟨fun h => by omega, fun _ => ⟨rfl, rfl⟩⟩
 | n + 1, i, hi => by
  have hn := hx.n
  have ih := D8 hx n (i + 1) (by omega)
  have hl := KU hx (x.ar.take i) i (by omega) (x.ar.getD i []).length 0 (by omega)
  have w1 : IntKind.i64.wrap ((i : Int) + 1) = ((i + 1 : Nat) : Int) := bE (by omega)
  have hle : (x.ar.take i).length = i := by rw [List.length_take]; omega
  refine bl (E := xD) follows named (KS x (x.ar.take i) (i : Nat)) ?_
  simp only [az, T.WP, All, aB, aC, aA, w1, bB.ae, Int.toNat_natCast, bB.length, hle]
  refine ⟨fun _ => ?_, fun h => by omega⟩
  rintro _ -
  rw [pL, pL, List.take_zero, hle] at hl
  refine ⟨⟨bn, .bg hl⟩, aK, ?_⟩
  rw [j5 [] (show i < x.ar.length by omega)] at ih
  simp only [uf, dU, aI, m6, ab, List.length_append, List.length_singleton, hle] at ih ⊢
  exact ih
noncomputable def U0 : Nat -> St -> Option bT := fun id s => match id, s.hp with
 | 0, some ([.dsl _ _ cs, .int _ nx], _) :: _ => some ⟨(), fun _ => .one { keep := [1, 2, 3, 4], lX := [(3, 0)] } (uf ⟨ae aI cs, nx⟩ [] 0) (.exit 0) (uf ⟨ae aI cs, nx⟩ (ae aI cs) (ae aI cs).length)⟩
 | _, _ => none
noncomputable def sb : Env := { P := Tryz.prog, vw := fv, res := fun _ _ _ => none, ls := U0 }
theorem Xx (x : aM) : fnT sb 0 ew [.agg (aP x)] [] = (
 let q := ae aI (ah aI x.ar);
 let q3 := aM.mk q x.next;
 let q4 : List V := [.dsl 0 true [], aa 0];
 let q1 : Hp := [some ((aP q3), 29), some (q4, 29), some ([.sl 3 0 0 false, aa q3.next], 29), some ([.aJ []], 46)];
 let q2 := ai 48 [(1, .ptr 0 0), (2, .ptr 1 0), (3, .ptr 2 0), (4, aa 0)]; .bind PUnit.unit fun _ => .ag [St.mk q2 [some ((aP x), 29), some (q4, 29), some ([.sl 3 0 0 false, aa x.next], 29), some ([.aJ []], 46)] [] = St.mk q2
  q1 [], aV (Env.P sb) 0 (blk Tryz.prog ew 0) (St.mk q2 q1 []) (Ex.exit 0) (St.mk (ai 48 [(1, .ptr 0 0), (2, .ptr 1 0), (3, .ptr 2 0), (4, aa (↑q.length : Int))]) [some ((aP q3), 29), some (q4, 29), some ([.sl 3 0 q.length
  false, aa q3.next], 29), some ([.aJ (ah aI q)], 46)] [])] (.done (aj.mk (.agg [ab aI q, aa q3.next]) [] [])) : T _) := (T.force_eq _).symm.trans (by kernel_rfl)
theorem Xy (x : aM) : fnT sb 1 ew [.agg (aP x)] [] = (
 let q := ae aI (ah aI x.ar);
 let q3 := aM.mk q x.next;
 let q4 : List V := [.dsl 0 true [], aa 0];
 let q1 : Hp := [some ((aP q3), 29), some (q4, 29), some ([.sl 3 0 0 false, aa q3.next], 29), some ([.aJ []], 46)];
 let q2 := ai 48 [(1, .ptr 0 0), (2, .ptr 1 0), (3, .ptr 2 0), (4, aa 0)];
 let q5 := q.length; .bind PUnit.unit fun _ => .ag [St.mk q2 [some ((aP x), 29), some (q4, 29), some ([.sl 3 0 0 false, aa x.next], 29), some ([.aJ []], 46)] [] = St.mk q2 q1 [], aV (Env.P sb) 0 (blk Tryz.prog ew 0) (St.mk
  q2 q1 []) (Ex.exit 0) (St.mk (ai 48 [(1, .ptr 0 0), (2, .ptr 1 0), (3, .ptr 2 0), (4, aa (↑q5 : Int))]) [some ((aP q3), 29), some (q4, 29), some ([.sl 3 0 q5 false, aa q3.next], 29), some ([.aJ (ah aI q)], 46)] [])]
  (.done (aj.mk (.agg [.sl 0 0 q5 false, aa q3.next]) [some ([.aJ (ah aI q)], 46)] [])) : T _) := (T.force_eq _).symm.trans (by kernel_rfl)
theorem Lb {x : aM} (hx : kf x) : ao Tryz.prog ew [.agg (aP x)] [] ⟨.agg (aP x), [], []⟩ := by
 refine bh (E := sb) follows named (Xx x) (by simp) ?_
 simp only [T.WP, All, aA, bB.ae]
 have hl := D8 hx x.ar.length 0 af
 rintro _ -
 exact ⟨⟨bn, .bg hl⟩, aQ⟩
theorem K8 {x : aM} (hx : kf x) : ao Tryz.prog ew [.agg (aP x)] [] ⟨.agg [.sl 0 0 x.ar.length false, .int .i64 x.next], [some ([.aJ (ah aI x.ar)], dZ)], []⟩ := by
 refine bh (E := sb) follows named (Xy x) (by simp) ?_
 simp only [T.WP, All, aA, bB.ae]
 have hl := D8 hx x.ar.length 0 af
 rintro _ -
 exact ⟨⟨bn, .bg hl⟩, aQ⟩
abbrev sT : Nat := 102
def ud (S : aS) (i : Nat) (n : Int) : St := ⟨ai 21 [(1, .ptr 0 0), (2, .ptr 1 0), (3, .ptr 2 0), (4, .int .i64 n)],
 [some ([ab aq S], pS), some ([.dsl 0 true [], .int .i64 0], cO), some ([.sl 3 0 i false, .int .i64 1], cO), some ([.aJ (ah aI (List.replicate i []))], dZ)], []⟩
def WD : Ex -> Kp := fun ex => match ex with
 | .normal => { keep := [1, 2, 3, 4], perm := some ([0, 1, 2, 6], [3]) }
 | _ => { keep := [1, 2, 3, 4] }
theorem KQ (S : aS) (i : Nat) (n : Int) : bx lj 0 WD (lp Tryz.prog sT 0) (ud S i n) = (
 let q := List.replicate i []; bif decide (n < (↑S.length : Int)) then .ag [0 = 0, List.length (ah aI q) = i * 1, i + 1 <= 9223372036854775807, (i + 1) * 24 <= 140737488355328] (.done (Ex.normal, St.mk (ai 21 [(1, .ptr 0 0), (2,
  .ptr 1 0), (3, .ptr 2 0), (4, aa (IntKind.i64.wrap (n + 1)))]) [some ([ab aq S], 25), some ([.dsl 0 true [], aa 0], 29), some ([.sl 3 0 (i + 1) false, aa 1], 29), some ([.aJ (ah aI q ++ [.dsl 0 false []])], 46)] [])) else
  .done (Ex.exit 0, St.mk (ai 21 [(1, .ptr 0 0), (2, .ptr 1 0), (3, .ptr 2 0), (4, aa n)]) [some ([ab aq S], 25), some ([.dsl 0 true [], aa 0], 29), some ([.sl 3 0 i false, aa 1], 29), some ([.aJ (ah aI q)], 46)] []) : T _) := by kernel_rfl
theorem KR (S : aS) (hS : S.length <= 1048576) : ∀ (k i : Nat), i + k = S.length -> a8 Tryz.prog 0 (lp Tryz.prog sT 0) (ud S i (i : Nat)) (.exit 0) (ud S S.length (S.length : Nat))
 | 0, i, hi => by
  obtain rfl : i = S.length := hi
  refine bl (E := lj) follows named (KQ S S.length (S.length : Nat)) ?_
  simp only [az, T.WP, All, aB, aC, aA]
  exact ⟨fun h => af, fun _ => ⟨rfl, rfl⟩⟩
 | k + 1, i, hi => by
  have ih := KR S hS k (i + 1) af
  have w1 : IntKind.i64.wrap ((i : Int) + 1) = ((i + 1 : Nat) : Int) := bE af
  refine bl (E := lj) follows named (KQ S i (i : Nat)) ?_
  simp only [az, T.WP, All, aB, aC, aA, w1, bB.length, List.length_replicate]
  refine ⟨fun _ => ⟨aK, ?_⟩, fun h => af⟩
  simp only [ud, List.replicate_succ', dU, aI, m6, ab] at ih ⊢
  exact ih
noncomputable def UX : Nat -> St -> Option bT := fun id s => match id, s.hp with
 | 0, some ([.dsl _ _ cs], _) :: _ => some ⟨(), fun _ => .one { keep := [1, 2, 3, 4], lX := [(3, 0)] } (ud (ae aq cs) 0 0) (.exit 0) (ud (ae aq cs) (ae aq cs).length ((ae aq cs).length : Nat))⟩
 | _, _ => none
noncomputable def AX : Env := { P := Tryz.prog, vw := fv, res := fun _ _ _ => none, ls := UX }
theorem Xo (S : aS) : fnT AX 0 sT [.agg [ab aq S]] [] = (
 let q := ae aq (ah aq S);
 let q1 := ai 21 [(1, .ptr 0 0), (2, .ptr 1 0), (3, .ptr 2 0), (4, aa 0)];
 let q4 : List V := [.dsl 0 true [], aa 0];
 let q2 : Hp := [some ([ab aq q], 25), some (q4, 29), some ([.sl 3 0 0 false, aa 1], 29), some ([.aJ []], 46)];
 let q3 := q.length;
 let q5 := ah aI (List.replicate q3 []); .bind PUnit.unit fun _ => .ag [St.mk q1 [some ([ab aq S], 25), some (q4, 29), some ([.sl 3 0 0 false, aa 1], 29), some ([.aJ []], 46)] [] = St.mk q1 q2 [], aV (Env.P AX) 0 (blk
  Tryz.prog sT 0) (St.mk q1 q2 []) (Ex.exit 0) (St.mk (ai 21 [(1, .ptr 0 0), (2, .ptr 1 0), (3, .ptr 2 0), (4, aa (↑q3 : Int))]) [some ([ab aq q], 25), some (q4, 29), some ([.sl 3 0 q3 false, aa 1], 29), some ([.aJ q5], 46)]
  [])] (.done (aj.mk (.agg [.dsl q3 false q5, aa 1]) [] [])) : T _) := (T.force_eq _).symm.trans (by kernel_rfl)
theorem Wm {S : aS} (hS : S.length <= 1048576) : ao Tryz.prog sT [.agg [ab aq S]] [] ⟨.agg (aP (l5 S)), [], []⟩ := by
 have hl := KR S hS S.length 0 af
 refine bh (E := AX) follows named (Xo S) (by simp) ?_
 simp only [T.WP, All, aA, bJ.ae]
 rintro _ -
 refine ⟨⟨bn, .bg hl⟩, ?_⟩
 have e : (S.map fun _ => ([] : List Rw)) = List.replicate S.length [] := by rw [List.map_const']
 unfold l5
 rw [e]
 simp only [aP, ab, List.length_replicate]
 exact aQ
abbrev sX : Nat := 131
abbrev sN : Nat := 139
def wS (X : List (List Rw)) (nx : Int) (rows : List Rw) (r : Rw) (t k : Int) : St := ⟨ai 70 [(1, .int .i64 t), (3, .ptr 0 0), (5, .ptr 1 0), (6, .ptr 2 0), (7, ab av rows), (8, .int .i64 k)],
 [some ([.sl 3 0 X.length false, .int .i64 nx], cO), some (av r, dy), some ([.dsl 0 true [], .int .i64 0], cO), some ([.aJ (ah aI X)], dZ)], []⟩
def WN : Ex -> Kp := fun _ => { keep := [1, 3, 5, 6, 7, 8] }
noncomputable def L2 : cP := fun f vs _ =>
 bif Nat.beq f ew then (match vs with | [.agg [.dsl _ _ ts, .int _ nx]] => some ⟨(), fun _ => ⟨.agg [.sl 0 0 (ae aI ts).length false, .int .i64 nx], [some ([.aJ (ah aI (ae aI ts))], dZ)], []⟩⟩ | _ => none) else
 bif Nat.beq f kN then (match vs with | [.agg [.int _ d, .dsl n _ cs]] => some ⟨(), fun _ => ⟨.agg [.int .i64 d, .dsl n false cs], [], []⟩⟩ | _ => none) else none
noncomputable def sc : Env := { P := Tryz.prog, vw := fv, res := L2 }
theorem Lt (X : List (List Rw)) (nx : Int) (rows : List Rw) (r : Rw) (t k : Int) : bx sc 0 WN (lp Tryz.prog sX 0) (wS X nx rows r t k) = (
 let q : Hp := [some ([.sl 3 0 X.length false, aa nx], 29), some ((av r), 53), some ([.dsl 0 true [], aa 0], 29), some ([.aJ (ah aI X)], 46)];
 let q1 := ai 70 [(1, aa t), (3, .ptr 0 0), (5, .ptr 1 0), (6, .ptr 2 0), (7, ab av rows), (8, aa k)];
 let q2 := List.getD (ae av (ah av rows)) k.toNat (Rw.mk (0 : Int) []); bif decide (k < (↑rows.length : Int)) then .ag [0 <= k /\ k < (↑rows.length : Int), List.take 2 (List.drop (k.toNat * 2) (ah av rows)) = (av q2)]
  (bif decide (q2.id < r.id) then .done (Ex.normal, St.mk (ai 70 [(1, aa t), (3, .ptr 0 0), (5, .ptr 1 0), (6, .ptr 2 0), (7, ab av rows), (8, aa (IntKind.i64.wrap (k + 1)))]) q []) else .done (Ex.exit 0, St.mk q1 q [])) else
  .done (Ex.exit 0, St.mk q1 q []) : T _) := by kernel_rfl
noncomputable def U9 : Nat -> St -> Option bT := fun id s => match id, s.tm.get 1, s.tm.get 7, s.hp with
 | 0, .int _ t, .dsl _ _ rs, [some ([_, .int _ nx], _), some ([.int _ d, .dsl _ _ cs], _), _, some ([.aJ xs], _)] => some ⟨rowsUp (ae av rs) d, fun y => .one { keep := [1, 3, 5, 6, 7, 8] } (wS (ae aI xs) nx (ae av rs) ⟨d, ae a7 cs⟩ t 0) (.exit 0) (wS (ae aI xs) nx (ae av rs) ⟨d, ae a7 cs⟩ t (y : Nat))⟩
 | _, _, _, _ => none
noncomputable def pZ : Env := { P := Tryz.prog, vw := fv, res := L2, ls := U9 }
theorem YQ (x : aM) (t : Int) (r : Rw) : fnT pZ 0 sX [.agg (aP x), .int .i64 t, .agg (av r)] [] = (
 let q6 := ae aI (ah aI x.ar);
 let fA := ah aI q6;
 let q1 := ae aI fA;
 let q8 := 0 + t.toNat * 1;
 let cU := List.getD q1 (q8 / 1) [];
 let q := ae av (ah av cU);
 let q2 := Rw.mk r.id (ae a7 (ah a7 r.cells));
 let br := ah aI q1;
 let q3 : List Prop := [List.take 1 (List.drop q8 br) = [ab av (List.getD (ae aI br) (q8 / 1) [])], 0 + t.toNat * 1 + 1 <= br.length];
 let q7 := ah av q;
 let q4 := List.take (q.length * 2) q7;
 let bL := q1.length;
 let q5 : Hp := [some ([.sl 3 0 bL false, aa x.next], 29), some ((av q2), 53), some ([.dsl 0 true [], aa 0], 29), some ([.aJ br], 46)];
 let q9 := (↑q.length : Int);
 let bD := ai 70 [(1, aa t), (3, .ptr 0 0), (5, .ptr 1 0), (6, .ptr 2 0), (7, ab av q), (8, aa 0)];
 let ca := aj.mk (.agg (av q2)) [] [];
 let eC := 0 + t.toNat * 1 + 1;
 let fB : List Prop := [0 <= t /\ t < (↑bL : Int)];
 let jZ := Rw.mk (0 : Int) [];
 let jy := q6.length; .bind PUnit.unit fun _ => .ag [ao (Env.P pZ) 74 [.agg (aP x)] [] (aj.mk (.agg [.sl 0 0 jy false, aa x.next]) [some ([.aJ fA], 46)] [])] (.ag [0 <= t /\ t < (↑jy : Int)] (.ag [List.take 1
  (List.drop q8 fA) = [ab av cU]] (.bind (rowsUp q r.id) fun y1 =>
 let fC := Int.toNat (↑y1 : Int) - 0;
 let lW := Int.toNat (↑y1 : Int) * 2;
 let jz := List.take lW q7;
 let mO := q.length - Int.toNat (↑y1 : Int);
 let kz : List Prop := [List.length (List.drop lW q4) = mO * 2, List.all (List.drop lW q4) V.one = true, 0 = 0, List.length (List.drop 0 jz ++ (av q2)) = (0 + fC + 1) * 2, 0 + fC + 1 + mO <= 9223372036854775807, (0 + fC + 1 +
  mO) * 32 <= 140737488355328];
 let Es := List.drop 0 jz;
 let j0 : List Prop := [Es.length = fC * 2, List.all Es V.one = true, 0 = 0, 0 = 0, 0 + fC <= 9223372036854775807, (0 + fC) * 32 <= 140737488355328];
 let lV := aj.mk (.agg [.dsl bL false (List.take q8 br ++ .dsl (0 + fC + 1 + mO) false (List.drop 0 jz ++ aa q2.id :: ab a7 q2.cells :: List.drop lW q4) :: List.drop eC br), aa x.next]) [] [];
 let Et := (↑y1 : Int) + 1;
 let pE := IntKind.i64.wrap Et;
 let nP : List Prop := [0 = 0, Es.length = (0 + fC) * 2, 0 + fC + 1 <= 9223372036854775807, (0 + fC + 1) * 32 <= 140737488355328];
 let mN : List Prop := [(0 : Int) <= (↑y1 : Int) /\ (↑y1 : Int) <= q9];
 let nQ := List.getD (ae av q7) (Int.toNat (↑y1 : Int)) jZ;
 let mP := q.length - pE.toNat;
 let tO := pE.toNat * 2; .ag [St.mk (ai 70 [(1, aa t), (3, .ptr 0 0), (5, .ptr 1 0), (6, .ptr 2 0), (7, ab av cU), (8, aa 0)]) [some ([.sl 3 0 jy false, aa x.next], 29), some ((av r), 53), some ([.dsl 0 true [], aa 0],
  29), some ([.aJ fA], 46)] [] = St.mk bD q5 [], aV (Env.P pZ) 0 (blk Tryz.prog sX 0) (St.mk bD q5 []) (Ex.exit 0) (St.mk (ai 70 [(1, aa t), (3, .ptr 0 0), (5, .ptr 1 0), (6, .ptr 2 0), (7, ab av q), (8, aa (↑y1 :
  Int))]) q5 [])] (.ag mN (bif decide ((↑y1 : Int) < q9) then .ag [(0 : Int) <= (↑y1 : Int) /\ (↑y1 : Int) < q9, List.take 2 (List.drop lW q7) = [aa nQ.id, ab a7 nQ.cells]] (bif nQ.id == q2.id then .ag [0 <=
  IntKind.i64.wrap Et /\ IntKind.i64.wrap Et <= q9] (.ag mN (.ag j0 (.bind PUnit.unit fun _ => .ag [ao (Env.P pZ) 154 [.agg (av q2)] [] ca] (.ag nP (.ag [List.length (List.drop tO q4) = mP * 2, List.all (List.drop
  tO q4) V.one = true, 0 = 0, List.length (List.drop 0 jz ++ (av q2)) = (0 + fC + 1) * 2, 0 + fC + 1 + mP <= 9223372036854775807, (0 + fC + 1 + mP) * 32 <= 140737488355328] (.ag fB (.ag q3 (.done (aj.mk (.agg [.dsl bL
  false (List.take q8 br ++ .dsl (0 + fC + 1 + mP) false (List.drop 0 jz ++ aa q2.id :: ab a7 q2.cells :: List.drop tO q4) :: List.drop eC br), aa x.next]) [] []))))))))) else .ag mN (.ag j0 (.bind PUnit.unit fun _
  => .ag [ao (Env.P pZ) 154 [.agg (av q2)] [] ca] (.ag nP (.ag kz (.ag fB (.ag q3 (.done lV)))))))) else .ag mN (.ag j0 (.bind PUnit.unit fun _ => .ag [ao (Env.P pZ) 154 [.agg (av q2)] [] ca] (.ag
  nP (.ag kz (.ag fB (.ag q3 (.done lV)))))))))))) : T _) := (T.force_eq _).symm.trans (by kernel_rfl)
theorem P5 (x : aM) (t k : Int) : fnT sc 0 sN [.agg (aP x), .int .i64 t, .int .i64 k] [] = (
 let q1 := ae aI (ah aI x.ar);
 let q4 := ah aI q1;
 let q8 := 0 + t.toNat * 1;
 let q := List.getD (ae aI q4) (q8 / 1) [];
 let q2 := IntKind.i64.wrap (k + 1);
 let q3 := List.take (k.toNat * 2) (ah av q);
 let q5 := k.toNat - 0;
 let q6 := List.take (q.length * 2) (ah av q);
 let q7 := q.length - q2.toNat;
 let bL := q1.length;
 let q9 : List Prop := [0 <= t /\ t < (↑bL : Int)];
 let br : List Prop := [List.take 1 (List.drop q8 q4) = [ab av q]];
 let bD := q2.toNat * 2;
 let ca := List.drop 0 q3; .bind PUnit.unit fun _ => .ag [ao (Env.P sc) 74 [.agg (aP x)] [] (aj.mk (.agg [.sl 0 0 bL false, aa x.next]) [some ([.aJ q4], 46)] [])] (.ag q9 (.ag br (.ag [0 <= k /\ k <= (↑q.length : Int)]
  (.ag [ca.length = q5 * 2, List.all ca V.one = true, 0 = 0, 0 = 0, 0 + q5 <= 9223372036854775807, (0 + q5) * 32 <= 140737488355328] (.ag q9 (.ag br (.ag [0 <= IntKind.i64.wrap (k + 1) /\ IntKind.i64.wrap (k + 1) <= (↑q.length :
  Int)] (.ag [List.length (List.drop bD q6) = q7 * 2, List.all (List.drop bD q6) V.one = true, 0 = 0, ca.length = (0 + q5) * 2, 0 + q5 + q7 <= 9223372036854775807, (0 + q5 + q7) * 32 <= 140737488355328] (.ag q9 (.ag [List.take 1
  (List.drop q8 q4) = [ab av q], 0 + t.toNat * 1 + 1 <= q4.length] (.done (aj.mk (.agg [.dsl bL false (List.take q8 q4 ++ .dsl (0 + q5 + q7) false (List.drop 0 q3 ++ List.drop bD q6) :: List.drop (0 + t.toNat * 1 + 1) q4), aa
  x.next]) [] [])))))))))))) : T _) := (T.force_eq _).symm.trans (by kernel_rfl)
theorem dn.setAt {α : Type} {enc : α -> List V} {s : Nat} (h : dn enc s) (L : List α) (i : Nat) (hi : i < L.length) (x : α) : ah enc (L.set i x) = (ah enc L).take (i * s) ++ (enc x ++ (ah enc L).drop (i * s + s)) := by
 rw [List.set_eq_take_append_cons_drop, if_pos hi, qk, eu, h.take, show i * s + s = (i + 1) * s by rw [Nat.add_mul, Nat.one_mul], h.drop]
theorem MS {α : Type} {enc : α -> List V} (A B : List α) (n : Nat) (hn : n = A.length + B.length) : V.dsl n false (ah enc A ++ ah enc B) = ab enc (A ++ B) := by
 subst hn
 unfold ab
 rw [qk, List.length_append]
theorem ac4 {α : Type} {enc : α -> List V} (A B : List α) (x : α) (n : Nat) (hn : n = A.length + 1 + B.length) : V.dsl n false (ah enc A ++ (enc x ++ ah enc B)) = ab enc (A ++ x :: B) := by
 subst hn
 unfold ab
 rw [qk, eu, List.length_append, List.length_cons]
 congr 1; omega
theorem Hm {x : aM} (hx : kf x) (t k : Nat) (ht : t < x.ar.length) (hk : k < (x.ar.getD t []).length) : ao Tryz.prog sN [.agg (aP x), .int .i64 t, .int .i64 k] [] ⟨.agg (aP (ik x t k)), [], []⟩ := by
 have aL := bB.at x.ar [] t 1 ht rfl
 have hn := hx.t _ (bP [] ht)
 have Tn := hx.n
 have hw : IntKind.i64.wrap ((k : Int) + 1) = ((k + 1 : Nat) : Int) := bE af
 have jt := bB.setAt x.ar t ht (fq (x.ar.getD t []) k)
 rw [Nat.mul_one] at aL jt
 unfold fq at jt
 have hs : aP (ik x t k) = [ab aI (x.ar.set t ((x.ar.getD t []).take k ++ (x.ar.getD t []).drop (k + 1))), .int .i64 x.next] := rfl
 rw [hs]
 generalize nE : x.ar.getD t [] = rows at *
 have h1 : (rows.take k).length = k := by rw [List.length_take]; omega
 have h2 : (rows.drop (k + 1)).length = rows.length - (k + 1) := List.length_drop
 refine bh (E := sc) follows named (P5 x (t : Nat) (k : Nat)) (by simp) ?_
 simp only [T.WP, All, aA, bB.ae, Int.toNat_natCast, Nat.zero_add, Nat.mul_one, Nat.div_one, Nat.sub_zero, List.drop_zero, hw, nE, bN.take, bN.drop, bN.length, bN.all, bB.length, List.take_length, h1, h2]
 rintro _ -
 refine ⟨K8 hx, aK, aL, aK, aK, aK, aL, aK, aK, aK, ⟨aL, af⟩, ?_⟩
 rw [MS (rows.take k) (rows.drop (k + 1)) (k + (rows.length - (k + 1))) (by rw [h1, h2])]
 have e : V.dsl x.ar.length false (List.take t (ah aI x.ar) ++ ab av (List.take k rows ++ List.drop (k + 1) rows) :: List.drop (t + 1) (ah aI x.ar)) = ab aI (x.ar.set t (List.take k rows ++ List.drop (k + 1) rows)) := by
  have hl : (x.ar.set t (List.take k rows ++ List.drop (k + 1) rows)).length = x.ar.length := List.length_set
  show _ = V.dsl (x.ar.set t (List.take k rows ++ List.drop (k + 1) rows)).length false (ah aI (x.ar.set t (List.take k rows ++ List.drop (k + 1) rows)))
  rw [hl, jt]
  rfl
 rw [e]
 exact aQ
theorem Lu (X : List (List Rw)) (nx : Int) (rows : List Rw) (r : Rw) (t : Int) (hr : rows.length <= 1048576) : ∀ (m k : Nat), k + m = rows.length ->
  a8 Tryz.prog 0 (lp Tryz.prog sX 0) (wS X nx rows r t k) (.exit 0) (wS X nx rows r t ((k + rowsUp (rows.drop k) r.id : Nat) : Int))
 | 0, k, hk => by
  obtain rfl : k = rows.length := hk
  rw [List.drop_length]
  refine bl (E := sc) follows named (Lt X nx rows r t (rows.length : Nat)) ?_
  simp only [az, T.WP, All, aB, aC, aA]
  exact ⟨fun h => by omega, fun _ => ⟨rfl, rfl⟩⟩
 | m + 1, k, hk => by
  have aL := bN.at rows ⟨0, []⟩ k 2 (by omega) rfl
  have ih := Lu X nx rows r t hr m (k + 1) (by omega)
  have w1 : IntKind.i64.wrap ((k : Int) + 1) = ((k + 1 : Nat) : Int) := bE (by omega)
  refine bl (E := sc) follows named (Lt X nx rows r t (k : Nat)) ?_
  simp only [az, T.WP, All, aB, aC, aA, w1, bN.ae, Int.toNat_natCast]
  rw [gh ⟨0, []⟩ (show k < rows.length by omega), rowsUp]
  refine ⟨fun _ => ⟨⟨aK, aL⟩, fun h => ?_, fun h => ?_⟩, fun h => by omega⟩
  ·rw [decide_eq_true h, cond_true]
   rw [show k + (rowsUp (rows.drop (k + 1)) r.id + 1) = k + 1 + rowsUp (rows.drop (k + 1)) r.id by omega]
   exact ih
  ·rw [decide_eq_false h]
   exact ⟨rfl, rfl⟩
theorem Me : ∀ (rows : List Rw) (id : Int), rowsUp rows id <= rows.length
 | [], _ => Nat.le_refl _
 | r :: rs, id => by
  rw [rowsUp]
  have := Me rs id
  cases decide (r.id < id)
  ·simp
  ·simp only [cond_true, List.length_cons]; omega
theorem Lv {x : aM} (hx : kf x) (t : Nat) (r : Rw) (hr : ir r) (ht : t < x.ar.length) (hlen : (x.ar.getD t []).length <= 1000000) : ao Tryz.prog sX [.agg (aP x), .int .i64 t, .agg (av r)] [] ⟨.agg (aP (il x t r)), [], []⟩ := by
 have aL := bB.at x.ar [] t 1 ht rfl
 have hn := hx.t _ (bP [] ht)
 have Tn := hx.n
 have jt := bB.setAt x.ar t ht (ie (x.ar.getD t []) r)
 rw [Nat.mul_one] at aL jt
 have hs : aP (il x t r) = [ab aI (x.ar.set t (ie (x.ar.getD t []) r)), .int .i64 x.next] := rfl
 rw [hs]
 have hl := Lu x.ar x.next (x.ar.getD t []) r (t : Nat) hn (x.ar.getD t []).length 0 af
 rw [Nat.zero_add, List.drop_zero] at hl
 have hle := Me (x.ar.getD t []) r.id
 have hP : ie (x.ar.getD t []) r = (x.ar.getD t []).take (rowsUp (x.ar.getD t []) r.id) ++ r :: mR (x.ar.getD t []) (rowsUp (x.ar.getD t []) r.id) r.id := rfl
 rw [hP] at jt ⊢
 have fin : ∀ v : List Rw, V.dsl x.ar.length false (List.take t (ah aI x.ar) ++ ab av v :: List.drop (t + 1) (ah aI x.ar)) = ab aI (x.ar.set t v) := by
  intro v
  have hl : (x.ar.set t v).length = x.ar.length := List.length_set
  have jt := bB.setAt x.ar t ht v
  rw [Nat.mul_one] at jt
  show _ = V.dsl (x.ar.set t v).length false (ah aI (x.ar.set t v))
  rw [hl, jt]
  rfl
 generalize nE : x.ar.getD t [] = rows at *
 generalize hu : rowsUp rows r.id = u at *
 have h1 : (rows.take u).length = u := by rw [List.length_take]; omega
 have h2 : (rows.drop (u + 1)).length = rows.length - (u + 1) := List.length_drop
 have h3 : (rows.drop u).length = rows.length - u := List.length_drop
 have hw : IntKind.i64.wrap ((u : Int) + 1) = ((u + 1 : Nat) : Int) := bE af
 refine bh (E := pZ) follows named (YQ x (t : Nat) r) (by simp) ?_
 simp only [az, T.WP, All, aB, aC, aA, aD, aE, aF, bB.ae, bN.ae, bV.ae, Int.toNat_natCast, Nat.zero_add, Nat.mul_one, Nat.div_one, Nat.sub_zero, List.drop_zero, nE, bB.length]
 rintro _ -
 refine ⟨K8 hx, aK, aL, ?_⟩
 rw [hu]
 rintro y rfl
 simp only [hw, bN.take, bN.drop, bN.length, bN.all, Int.toNat_natCast, List.take_length, h1, h2, h3]
 have CZ : (ah av (List.take y rows) ++ [V.int .i64 r.id, .dsl r.cells.length false (ah a7 r.cells)]).length = (y + 1) * 2 := by
  rw [List.length_append, bN.length, h1]; simp only [List.length_cons, List.length_nil]; omega
 have e3 : ∀ (T : List Rw) (m : Nat), m = T.length -> V.dsl x.ar.length false (List.take t (ah aI x.ar) ++ V.dsl (y + 1 + m) false (ah av (List.take y rows) ++ V.int .i64 r.id :: V.dsl r.cells.length false (ah a7 r.cells) :: ah av T) :: List.drop (t + 1) (ah aI x.ar)) = ab aI (x.ar.set t (List.take y rows ++ r :: T)) := by
  rintro T m rfl
  have := fin (List.take y rows ++ r :: T)
  rw [<- ac4 (enc := av) (List.take y rows) T r (y + 1 + T.length) (by rw [h1])] at this
  exact this
 have tl1 : y < rows.length -> (rows.getD y ⟨0, []⟩).id = r.id -> mR rows y r.id = rows.drop (y + 1) := by
  intro a b
  unfold mR
  have b' : (rows.getD y .zero).id = r.id := b
  rw [decide_eq_true a, b']
  simp
 have tl2 : y < rows.length -> ¬ (rows.getD y ⟨0, []⟩).id = r.id -> mR rows y r.id = rows.drop y := by
  intro a b
  unfold mR
  have b' : ¬ (rows.getD y .zero).id = r.id := b
  have b2 : ((rows.getD y .zero).id == r.id) = false := by simpa using b'
  rw [b2]
  simp
 have tl3 : ¬ y < rows.length -> mR rows y r.id = rows.drop y := by
  intro a
  unfold mR
  rw [decide_eq_false a]
  rfl
 refine ⟨⟨bn, .bg hl⟩, aK, fun bO => ⟨⟨aK, ?_⟩, fun hid => ?_, fun hid => ?_⟩, fun gm => ?_⟩
 ·have cA := bN.at rows ⟨0, []⟩ y 2 af rfl
  rw [bN.drop] at cA
  exact cA
 ·rw [tl1 af hid]
  refine ⟨aK, aK, aK, ?_⟩
  rintro _ -
  refine ⟨vY r hr, aK, ⟨bn, bn, bn, CZ, af, af⟩, aK, ⟨aL, af⟩, ?_⟩
  rw [e3 (rows.drop (y + 1)) (rows.length - (y + 1)) h2.symm]
  exact aQ
 ·rw [tl2 af hid]
  refine ⟨aK, aK, ?_⟩
  rintro _ -
  refine ⟨vY r hr, aK, ⟨bn, bn, bn, CZ, af, af⟩, aK, ⟨aL, af⟩, ?_⟩
  rw [e3 (rows.drop y) (rows.length - y) h3.symm]
  exact aQ
 ·rw [tl3 af]
  refine ⟨aK, aK, ?_⟩
  rintro _ -
  refine ⟨vY r hr, aK, ⟨bn, bn, bn, CZ, af, af⟩, aK, ⟨aL, af⟩, ?_⟩
  rw [e3 (rows.drop y) (rows.length - y) h3.symm]
  exact aQ
end Go.Proofs.YtlomaojlpodibaaGreat

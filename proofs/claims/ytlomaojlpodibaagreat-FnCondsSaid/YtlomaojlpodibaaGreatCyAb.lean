/-
  The small evaluator: code and functions.
  The small evaluator: results of functions; what is no more named reads as values.
  The small evaluator: what is known of blocks, said in another way.
  The small evaluator: states said in another way.
  The small evaluator: what a piece of code comes to; loops; functions.
  The small evaluator at inputs that are not known: what an operation comes to, and what is owed for it.
  The small evaluator at inputs that are not known: cells within rows; slices of their own.
  Operations on maps: this claim asks for none.
  The small evaluator at inputs that are not known: trees of what is owed.
  Layouts of lists: general laws; numbers.
  The small evaluator: what is proved of a block that is sealed holds of one that is not.
  The evaluator of closed calls: deep, by fuel.
  Layouts of library functions at this program (printed by tools/lays.py).
  Loops whose rounds are counted.
  What is one's own is lent to a function that only reads it, or given away.
  Atoms, sets, rows, stores, schemas: as they lie in memory, only read.
  Streams in plain Lean: what a byte does, in the reference's way and in the program's; the two agree.
  Conditions, monitors, locks, sessions, servers: as they lie in memory, only read; how elements read.
  Sets, operations, results: as they lie in memory, only read. A mutation lies as a condition does.
  Tests of numbers and texts.
  Names, atoms, sets, columns, tables, schemas, rows, stores, locks, conditions, monitors: when they are right.
  The source of choices, by trees.
-/
import Derived.Test.YtlomaojlpodibaaGreatCyAa
import Derived.KernelRfl
import Derived.ChangeMaps5
import Derived.Shelf.Lays
import Derived.Shelf.Small.Strs
import Derived.Test.YtlomaojlpodibaaGreatRows
import GoSem.Core.Value
namespace Go.Proofs.YtlomaojlpodibaaGreat
open Go.RowKit
set_option maxRecDepth 100000
abbrev Rec := St × List Nat × List Nat
inductive me (P : Program) (ops : Array Oper) : List Oper -> St -> List Rec -> St -> Prop where
 | nil (s : St) : me P ops [] s [] s
 | cons {o : Oper} {rest : List Oper} {s s' s2 : St} {acc wr : List Nat} {l : List Rec} (h : oe P ops s o s' acc wr) (t : me P ops rest s' l s2) : me P ops (o :: rest) s ((s, acc, wr) :: l) s2
def snOf (l : List Rec) (s2 : St) (i : Nat) : St := match l[i]? with
 | some r => r.1
 | none => s2
def qa (l : List Rec) (i : Nat) : List Nat := match l[i]? with
 | some r => r.2.1
 | none => []
def lf (l : List Rec) (i : Nat) : List Nat := match l[i]? with
 | some r => r.2.2
 | none => []
def maskOf (acc : List Nat) : List Edge -> Nat
 | [] => 0
 | e :: es => if Region.binds .any e then (2 ^ e.on ||| acc.getD e.on 0) ||| maskOf acc es else maskOf acc es
def befL : List Oper -> List Nat -> List Nat
 | [], acc => acc
 | o :: os, acc => befL os (acc ++ [maskOf acc o.after.toList])
def freeB (ops : Array Oper) (l : List Rec) (s2 : St) (i j : Nat) : Bool :=
 (match ops[i]?, ops[j]? with
  | some oi, some oj => oi.apart ops oj
  | _, _ => false) &&
 (qa l j).all (fun b => !fE (snOf l s2) (lf l) b i) && (lf l j).all fun b => !(qa l i).contains b
def sG (ops : Array Oper) (l : List Rec) (s2 : St) : Bool :=
 let ms := befL ops.toList []
 (ops.toList.zipIdx.all fun x => x.1.after.toList.all fun e => !Region.binds .any e || decide (e.on < x.2)) &&
 (List.range ops.size).all fun j => (List.range j).all fun i => (ms.getD j 0).testBit i || freeB ops l s2 i j
def evResult (P : Program) (hp : Hp) (tm : Tm) : ResultVar -> Option V
 | .tmp t => some (tm.get t)
 | .cell a t => (evLoad P hp t (tm.get a)).map (·.v)
def evResultL (P : Program) (hp : Hp) (tm : Tm) : List ResultVar -> Option (List V)
 | [] => some []
 | r :: rs => match evResult P hp tm r, evResultL P hp tm rs with
  | some v, some vs => some (v :: vs)
  | _, _ => none
def oneOf : List V -> V
 | [v] => v
 | vs => .tup vs
section
variable {P : Program} {ops : Array Oper}
theorem Ns : ∀ {os : List Oper} {s : St} {l : List Rec} {s2 : St}, me P ops os s l s2 ->
  l.length = os.length /\ snOf l s2 0 = s /\ (∀ (i : Nat) (o : Oper), os[i]? = some o -> oe P ops (snOf l s2 i) o (snOf l s2 (i + 1)) (qa l i) (lf l i))
 | _, _, _, _, .nil s => ⟨rfl, rfl, by simp⟩
 | _, _, _, s2, .cons (o := o) (rest := rest) (s := s) (s' := s') (acc := acc) (wr := wr) (l := l') hs ht => by
  obtain ⟨h1, h2, h3⟩ := Ns ht
  refine ⟨by simp [h1], rfl, fun i o' ho => ?_⟩
  cases i with
  | zero =>
   simp at ho; subst ho
   show oe P ops s o (snOf ((s, acc, wr) :: l') s2 1) acc wr
   have : snOf ((s, acc, wr) :: l') s2 1 = snOf l' s2 0 := rfl
   rw [this, h2]
   exact hs
  | succ i =>
   have := h3 i o' (by simpa using ho)
   simpa [snOf, qa, lf] using this
theorem DR {acc : List Nat} {i : Nat} : ∀ {es : List Edge}, (maskOf acc es).testBit i = true -> ∃ e ∈ es, Region.binds .any e = true /\ (e.on = i \/ (acc.getD e.on 0).testBit i = true)
 | [], h => by simp [maskOf] at h
 | e :: es, h => by
  unfold maskOf at h
  split at h
  ·rename_i hb
   rw [Nat.testBit_or, Nat.testBit_or, Bool.or_eq_true, Bool.or_eq_true, Nat.testBit_two_pow] at h
   rcases h with (h | h) | h
   ·exact ⟨e, by simp, hb, .inl (by simpa using h)⟩
   ·exact ⟨e, by simp, hb, .inr h⟩
   ·obtain ⟨e', he, h1, h2⟩ := DR h
    exact ⟨e', by simp [he], h1, h2⟩
  ·obtain ⟨e', he, h1, h2⟩ := DR h
   exact ⟨e', by simp [he], h1, h2⟩
theorem Gr (ops : Array Oper) : ∀ (os : List Oper) (acc : List Nat), ops.toList = (ops.toList.take acc.length) ++ os -> acc.length <= ops.size ->
  (∀ j i, (acc.getD j 0).testBit i = true -> mY ops i j) -> ∀ j i, ((befL os acc).getD j 0).testBit i = true -> mY ops i j
 | [], acc, _, _, h => h
 | o :: os, acc, he, hl, h => by
  unfold befL
  have bO : acc.length < ops.size := by
   have := congrArg List.length he
   simp at this; omega
  have C6 : (ops.toList.take acc.length).length = acc.length := by simp; omega
  have ho : ops[acc.length]? = some o := by
   rw [<- Array.getElem?_toList, he, List.getElem?_append_right af, C6, Nat.sub_self]
   rfl
  refine Gr ops os _ ?_ (by simp; omega) fun j i hb => ?_
  ·rw [List.length_append, List.length_singleton, List.take_add_one, Array.getElem?_toList, ho]
   conv => lhs; rw [he]
   simp
  ·simp only [List.getD_eq_getElem?_getD] at hb
   rw [List.getElem?_append] at hb
   split at hb
   ·exact h j i (by simpa [List.getD_eq_getElem?_getD] using hb)
   ·rename_i hj
    cases hk : j - acc.length with
    | zero =>
     rw [hk] at hb
     simp at hb
     have Sa : j = acc.length := af
     obtain ⟨e, IX, CM, SJ⟩ := DR hb
     rw [Sa]
     rcases SJ with h1 | h1
     ·exact .one ho (by simpa using IX) CM h1
     ·exact .more ho (by simpa using IX) CM (h _ _ h1)
    | succ k => rw [hk] at hb; simp at hb
theorem P6 {l : List Rec} {s2 : St} (h : sG ops l s2 = true) : (∀ j o e, ops[j]? = some o -> e ∈ o.after -> Region.binds .any e = true -> e.on < j) /\
  (∀ i j, i < j -> j < ops.size -> mY ops i j \/ F9 ops (snOf l s2) (qa l) (lf l) i j) := by
 unfold sG at h
 simp only [Bool.and_eq_true] at h
 obtain ⟨h1, h2⟩ := h
 refine ⟨fun j o e ho he hb => ?_, fun i j R7 hj => ?_⟩
 ·rw [List.all_eq_true] at h1
  have hm : (o, j) ∈ ops.toList.zipIdx := by
   rw [List.mem_zipIdx_iff_getElem?]
   simpa using ho
  have := h1 _ hm
  rw [List.all_eq_true] at this
  have := this e (by simpa using he)
  simpa [hb] using this
 ·rw [List.all_eq_true] at h2
  have h3 := h2 j (by simpa using hj)
  rw [List.all_eq_true] at h3
  have h4 := h3 i (by simpa using R7)
  rw [Bool.or_eq_true] at h4
  rcases h4 with h4 | h4
  ·exact .inl (Gr ops ops.toList [] (by simp) (by simp) (by simp) j i h4)
  ·right
   unfold freeB at h4
   simp only [Bool.and_eq_true, List.all_eq_true] at h4
   obtain ⟨⟨h5, h6⟩, h7⟩ := h4
   refine ⟨fun oi oj e9 SG => ?_, fun b hb => by simpa using h6 b hb, fun b hb => by simpa using h7 b hb⟩
   rw [e9, SG] at h5
   exact h5
theorem Nr {s s' : St} : ∀ l, me P ops ops.toList s l s' -> ∃ (hr : jh P ops (snOf l s') (qa l) (lf l)), snOf l s' 0 = s /\ snOf l s' ops.size = s' /\ (∀ b, b ∈ (l.flatMap (·.2.2)) ↔ ∃ i, i < ops.size /\ b ∈ lf l i) /\ (∀ b, b ∈ s'.wr ↔ b ∈ s.wr \/ b ∈ (l.flatMap (·.2.2))) := by
 intro l hl
 obtain ⟨h1, h2, h3⟩ := Ns hl
 have hr : jh P ops (snOf l s') (qa l) (lf l) := ⟨fun i o ho => h3 i o (by simpa using ho)⟩
 have cM : l.length = ops.size := by simpa using h1
 have hW : ∀ b, b ∈ (l.flatMap (·.2.2)) ↔ ∃ i, i < ops.size /\ b ∈ lf l i := by
  intro b
  rw [List.mem_flatMap]
  constructor
  ·rintro ⟨r, eh, hb⟩
   obtain ⟨i, hi, rfl⟩ := List.getElem_of_mem eh
   exact ⟨i, by omega, by simp [lf, List.getElem?_eq_getElem hi, hb]⟩
  ·rintro ⟨i, hi, hb⟩
   have bH : i < l.length := by omega
   exact ⟨l[i], List.getElem_mem bH, by simpa [lf, List.getElem?_eq_getElem bH] using hb⟩
 have Iy : snOf l s' ops.size = s' := by simp [snOf, cM]
 refine ⟨hr, h2, Iy, hW, fun b => ?_⟩
 have ga : ∀ i, i <= ops.size -> (b ∈ (snOf l s' i).wr ↔ b ∈ s.wr \/ ∃ k, k < i /\ b ∈ lf l k) := by
  intro i
  induction i with
  | zero => intro _; rw [h2]; simp
  | succ i ih =>
   intro hi
   obtain ⟨_, hw, _⟩ := hr.parts i _ (Array.getElem?_eq_getElem (show i < ops.size by omega))
   rw [hw, List.mem_append, ih (by omega)]
   constructor
   ·rintro ((h | ⟨k, hk, h⟩) | h)
    ·exact .inl h
    ·exact .inr ⟨k, by omega, h⟩
    ·exact .inr ⟨i, by omega, h⟩
   ·rintro (h | ⟨k, hk, h⟩)
    ·exact .inl (.inl h)
    ·by_cases e : k = i
     ·subst e; exact .inr h
     ·exact .inl (.inr ⟨k, by omega, h⟩)
 rw [hW]
 have := ga ops.size (Nat.le_refl _)
 rw [Iy] at this
 exact this
structure SR (aZ : Hp) (s : St) : Prop where
 len : aZ.length <= s.hp.length
 frame : ∀ b, b < aZ.length -> b ∉ s.wr -> s.hp[b]? = aZ[b]?
 alive : ∀ b, b < aZ.length -> dt s.hp b -> dt aZ b
theorem Y0 {s s' : St} {l : List Rec} (hl : me P ops ops.toList s l s') {aZ : Hp} (C : SR aZ s) : SR aZ s' := by
 obtain ⟨hr, h0, hN, hW, iA⟩ := Nr l hl
 have hl := lens hr (Nat.zero_le ops.size) (Nat.le_refl _)
 rw [h0, hN] at hl
 refine ⟨Nat.le_trans C.len hl, fun b hb hn => ?_, fun b hb h => ?_⟩
 ·have := Mi hr (c := b) (by rw [h0]; have := C.len; omega) (fun i hi gk => hn ((iA b).2 (.inr ((hW b).2 ⟨i, hi, gk⟩)))) ops.size (Nat.le_refl _)
  rw [h0, hN] at this
  rw [this]
  exact C.frame b hb fun h => hn ((iA b).2 (.inl h))
 ·have := EC hr (c := b) (by rw [h0]; have := C.len; omega) ops.size (Nat.le_refl _) (by rw [hN]; exact h)
  rw [h0] at this
  exact C.alive b hb this
theorem YZ (hm : P.follows .mixedOrders = true) (hn : dA P) {draw : Bool} {s s' : St} {l : List Rec} (hl : me P ops ops.toList s l s') (hd : draw = true -> sG ops l s' = true) {aZ : Hp} {I0 Im : Nat -> Prop} {μ0 μ : Mu} {w0 w : World} {a : Act}
  (C : CI P aZ I0 μ0 w0 s a w Im μ) {id : Nat} {Q : Exit -> Act -> World -> Prop} (hQ : ∀ a' w' μ' cJ, CI P aZ I0 μ0 w0 s' a' w' cJ μ' -> Q .normal a' w') : (Code.region id ops draw).wp P Q a w := by
 obtain ⟨hr, h0, hN, hW, iA⟩ := Nr l hl
 cases draw
 ·refine wp_region ?_
  rw [show List.range ops.size = List.range' 0 ops.size from List.range_eq_range' ..]
  refine LP hn hr (W := l.flatMap (·.2.2)) (fun i hi b hb => (hW b).2 ⟨i, hi, hb⟩) (by rw [h0]; exact C.cz) (fun L a' w' μ' cJ hL I => hQ a' w' μ' cJ ?_) ops.size 0 af a w μ Im (L7 (fun i => by simp) (by rw [h0]; exact C) w (.inl rfl))
  have := GQ hr hL hW (by rw [hN, h0]; exact iA) (by rw [h0]; exact C) I
  rwa [hN] at this
 ·obtain ⟨td, yK⟩ := P6 (hd rfl)
  refine wp_region_any hm ?_
  refine YY hn hr (W := l.flatMap (·.2.2)) (fun i hi b hb => (hW b).2 ⟨i, hi, hb⟩) (by rw [h0]; exact C.cz) td yK (fun L a' w' μ' cJ hL I => hQ a' w' μ' cJ ?_) ops.size _ (by simp) (Nat.le_trans List.countP_le_length (by simp)) ?_ a _ μ Im (L7 (fun i => ?_) (by rw [h0]; exact C) w.drew (.inr rfl))
  ·have := GQ hr hL hW (by rw [hN, h0]; exact iA) (by rw [h0]; exact C) I
   rwa [hN] at this
  ·intro j o e hj
   simp only [gI, Array.getD_eq_getD_getElem?, Array.getElem?_replicate] at hj
   split at hj <;> cases hj
  ·simp only [gI, Array.getD_eq_getD_getElem?, Array.getElem?_replicate]
   split <;> rfl
def Ex.toExit : Ex -> Exit
 | .normal => .normal
 | .exit id => .exit id
 | .ret => .ret
end
section
variable {P : Program} {callF : fG}
def zN (tmps : Array Value) : ResultVar -> Sem Value
 | .tmp t => pure (tmps.getD t undef)
 | .cell x t => do loadVar t (<- asAddr (tmps.getD x undef))
theorem Uu {hp : Hp} {t : TypeId} {x : V} {out : Out} (h : evLoad P hp t x = some out) : out.hp = hp := by
 unfold evLoad at h
 repeat' split at h
 all_goals first | (cases h; done) | (cases h; rfl)
theorem Zi {hp : Hp} {tm : Tm} {a : Act} {w : World} {Im : Nat -> Prop} {μ : Mu} (hZ : ∀ t, V.R P Im μ w (tm.get t) (a.tmps.getD t undef)) (hh : ∀ b blk, hp[b]? = some (some blk) -> Holds P Im μ w b blk)
  (bH : kF P Im w) (hi : ∀ b c blk bG g, b ≠ c -> hp[b]? = some (some blk) -> hp[c]? = some (some bG) -> μ.own b g -> μ.own c g -> False) {r : ResultVar} {v : V} (h : evResult P hp tm r = some v) :
  ∃ val, (zN a.tmps r).run P w = .ok val w /\ V.R P Im μ w v val := by
 unfold zN
 unfold evResult at h
 split at h
 ·cases h; exact ⟨_, rfl, hZ _⟩
 ·rename_i x t
  obtain ⟨out, ho, rfl⟩ := Option.map_eq_some_iff.1 h
  have hx := xX (hZ x)
  have e : out.hp = hp := Uu ho
  obtain ⟨h1, h2, h3, val, hr, hR⟩ := JJ ho (hZ x) ⟨bH, fun b _ blk hb => hh b blk hb, fun b _ c _ b1 b2 g bp hb hc => hi b c b1 b2 g bp hb hc, fun b hb bX => by
   rw [e] at bX; omega⟩
  refine ⟨val, ?_, hR⟩
  have key : ∃ ad, a.tmps.getD x undef = .pointer (some ad) := by
   unfold evLoad at ho
   split at ho
   case h_3 => cases ho
   case h_2 cs nH =>
    rw [nH] at hx
    simp only [V.R] at hx
    obtain ⟨g, off, hg, _⟩ := hx
    exact ⟨_, hg⟩
   case h_1 b off nH =>
    rw [nH] at hx
    simp only [V.R] at hx
    obtain ⟨g, _, hg⟩ := hx
    exact ⟨_, hg⟩
  obtain ⟨ad, hg⟩ := key
  simp only [hg, Instr.loadAt, Instr.sureAddr, Sem.run_bind, Sem.run_pure, Result.andThen_ok] at hr
  simp only [hg, asAddr, Sem.run_bind, Sem.run_pure, Result.andThen_ok]
  exact hr
theorem L4 {hp : Hp} {tm : Tm} {a : Act} {w : World} {Im : Nat -> Prop} {μ : Mu} (hZ : ∀ t, V.R P Im μ w (tm.get t) (a.tmps.getD t undef)) (hh : ∀ b blk, hp[b]? = some (some blk) -> Holds P Im μ w b blk)
  (bH : kF P Im w) (hi : ∀ b c blk bG g, b ≠ c -> hp[b]? = some (some blk) -> hp[c]? = some (some bG) -> μ.own b g -> μ.own c g -> False) : ∀ {rs : List ResultVar} {vs : List V}, evResultL P hp tm rs = some vs ->
  ∃ ch : List Value, (rs.mapM (zN a.tmps)).run P w = .ok ch w /\ V.RL P Im μ w vs ch
 | [], vs, h => by cases h; exact ⟨[], rfl, by simp [V.RL]⟩
 | r :: rs, vs, h => by
  unfold evResultL at h
  split at h
  case h_2 => cases h
  case h_1 v cD h1 h2 =>
  cases h
  obtain ⟨val, hr, hR⟩ := Zi hZ hh bH hi h1
  obtain ⟨ch, kq, Ra⟩ := L4 hZ hh bH hi h2
  refine ⟨val :: ch, ?_, by simp only [V.RL]; exact ⟨_, _, rfl, hR, Ra⟩⟩
  rw [List.mapM_cons, Sem.run_bind, hr]
  simp only [Result.andThen_ok, Sem.run_bind, kq, Sem.run_pure]
theorem Zj {fn : Func} {hp : Hp} {tm : Tm} {a : Act} {w : World} {Im : Nat -> Prop} {μ : Mu} (hZ : ∀ t, V.R P Im μ w (tm.get t) (a.tmps.getD t undef)) (hh : ∀ b blk, hp[b]? = some (some blk) -> Holds P Im μ w b blk)
  (bH : kF P Im w) (hi : ∀ b c blk bG g, b ≠ c -> hp[b]? = some (some blk) -> hp[c]? = some (some bG) -> μ.own b g -> μ.own c g -> False) {vs : List V} (h : evResultL P hp tm fn.results.toList = some vs) :
  ∃ val, (results fn a.tmps).run P w = .ok val w /\ V.R P Im μ w (oneOf vs) val := by
 obtain ⟨ch, hr, hR⟩ := L4 hZ hh bH hi h
 have hl := hR.length
 have nG : (results fn a.tmps).run P w = .ok (if h : ch.toArray.size = 1 then ch.toArray[0] else .tuple ch.toArray) w := by
  have e : results fn a.tmps = (do let vs <- fn.results.mapM (zN a.tmps); pure (if h : vs.size = 1 then vs[0] else .tuple vs)) := by
   unfold results
   first | rfl | (congr 1; congr 1; funext r; cases r <;> rfl) | (congr 1)
  rw [e, Sem.run_bind, Array.mapM_eq_mapM_toList]
  simp only [map_eq_pure_bind, Sem.run_bind, Sem.run_pure]
  rw [hr]
  simp only [Result.andThen_ok]
 refine ⟨_, nG, ?_⟩
 match vs, ch, hR, hl with
 | [], [], _, _ => simp [oneOf, V.R, V.RL]
 | [v], [u], hR, _ =>
  simp only [V.RL] at hR
  obtain ⟨u', us, e, h1, _⟩ := hR
  cases e
  simpa [oneOf] using h1
 | v1 :: v2 :: vs, u1 :: u2 :: us, hR, _ => simp only [oneOf]; simp; simp only [V.R]; exact ⟨_, rfl, by simpa using hR⟩
end
mutual
def V.fz (v : V) : V := match v with
 | .osl _ n o cs => .dsl n false (match o with
  | true => V.fzL cs
  | false => cs)
 | v => v
def V.fzL (l : List V) : List V := match l with
 | [] => []
 | c :: cs => V.fz c :: V.fzL cs
end
def fzS : Bool -> List V -> List V
 | true, c => V.fzL c
 | false, c => c
theorem CB {T : TypeId} {n : Nat} {o : Bool} {cs : List V} : V.fz (.osl T n o cs) = .dsl n false (fzS o cs) := by
 cases o <;> simp [V.fz, fzS]
def frzSeg (f : V -> V) : List V -> List V
 | [] => []
 | x :: t => match x with
  | .aJ c => match t with
   | [] => c
   | _ :: _ => c ++ frzSeg f t
  | .cu c => match t with
   | [] => V.fzL c
   | _ :: _ => V.fzL c ++ frzSeg f t
  | x => f x :: frzSeg f t
theorem QQ {f : V -> V} {o : Bool} {c : List V} : ∀ {t : List V}, frzSeg f (mkS o c :: t) = fzS o c ++ frzSeg f t
 | [] => by cases o <;> simp [frzSeg, mkS, fzS]
 | y :: u => by cases o <;> rfl
theorem QP {f : V -> V} {x : V} {t : List V} (hx : x.seals = none) : frzSeg f (x :: t) = f x :: frzSeg f t := by
 cases x <;> first | rfl | simp [V.seals] at hx
def frzIn (P : Program) (hp : Hp) (kept : List Nat) (m : Nat) : Nat -> V -> V
 | 0, _ => .b9
 | n + 1, v => match v with
  | .sl b off k full => if kept.contains b || decide (b < m) then .b9 else
   match hp[b]? with
   | some (some blk) => match c7 blk.1 with
    | true => if Nat.beq off 0 then .dsl k false (frzSeg (frzIn P hp kept m n) blk.1) else .b9
    | false => match da P blk.2 with
     | some s => if ((blk.1.drop off).take (k * s)).length = k * s then .dsl k false (((blk.1.drop off).take (k * s)).map (frzIn P hp kept m n)) else .b9
     | none => .b9
   | _ => .b9
  | .ptr _ _ => .b9
  | .agg cs => .agg (cs.map (frzIn P hp kept m n))
  | .tup cs => .tup (cs.map (frzIn P hp kept m n))
  | .fn f cs => .fn f (cs.map (frzIn P hp kept m n))
  | .box f cs => .box f (cs.map (frzIn P hp kept m n))
  | .dsl k _ cs => .dsl k false cs
  | .osl _ k o cs => .dsl k false (fzS o cs)
  | .eptr _ _ _ => .b9
  | v => v
def frz (P : Program) (hp : Hp) (kept : List Nat) (m : Nat) : Nat -> V -> V
 | 0, _ => .b9
 | n + 1, v => match v with
  | .sl b off k full => match pos kept b with
   | some j => .sl j off k full
   | none => frzIn P hp kept m (n + 1) (.sl b off k full)
  | .ptr b off => match pos kept b with
   | some j => .ptr j off
   | none => .b9
  | .eptr b base rel => match pos kept b with
   | some j => .eptr j base rel
   | none => .b9
  | .agg cs => .agg (cs.map (frz P hp kept m n))
  | .tup cs => .tup (cs.map (frz P hp kept m n))
  | .fn f cs => .fn f (cs.map (frz P hp kept m n))
  | .box f cs => .box f (cs.map (frz P hp kept m n))
  | v => v
mutual
def V.can : V -> V
 | .dsl n _ cs => .dsl n false cs
 | .agg cs => .agg (V.kM cs)
 | .tup cs => .tup (V.kM cs)
 | .int k n => .int k n
 | .bool b => .bool b
 | .str s => .str s
 | .iI => .iI
 | .ptr b o => .ptr b o
 | .sl b o n f => .sl b o n f
 | .dptr cs => .dptr cs
 | .aJ cs => .aJ cs
 | .cu cs => .cu cs
 | .eptr b o r => .eptr b o r
 | .osl T n o cs => .osl T n o cs
 | .fn f cs => .fn f cs
 | .box f cs => .box f cs
 | .jX => .jX
 | .lit u => .lit u
 | .b9 => .b9
def V.kM : List V -> List V
 | [] => []
 | c :: cs => V.can c :: V.kM cs
end
def fV : List V -> List V
 | [] => []
 | x :: t => match x with
  | .aJ c => match t with
   | [] => c
   | _ :: _ => c ++ fV t
  | .cu c => match t with
   | [] => c
   | _ :: _ => c ++ fV t
  | x => V.can x :: fV t
theorem HR {o : Bool} {c : List V} : ∀ {t : List V}, fV (mkS o c :: t) = c ++ fV t
 | [] => by cases o <;> simp [fV, mkS]
 | y :: u => by cases o <;> rfl
def ac7 : List V -> Bool
 | [x] => match x with
  | .aJ _ => true
  | .cu _ => true
  | _ => false
 | _ => false
def sealSt (m b : Nat) (s : St) : St :=
 match s.hp[b]? with
 | some (some blk) => match (Nat.ble m b || s.wr.contains b) && !(ac7 blk.1), V.refsL blk.1 with
  | true, [] => ⟨s.tm, s.hp.set b (some ([mkS (hasO blk.1) (fV blk.1)], blk.2)), s.wr⟩
  | _, _ => s
 | _ => s
def sealAll (m : Nat) : List Nat -> St -> St
 | [], s => s
 | b :: bs, s => sealAll m bs (sealSt m b s)
section
variable {P : Program} {callF : fG}
theorem QX {c : V} (h : c.isO = false) : V.fz c = c := by
 cases c
 case osl => simp [V.isO] at h
 all_goals (rw [V.fz]; intro T n o cs e; cases e)
mutual
theorem CC {I I' : Nat -> Prop} {w : World} (b5 : Sub I I') : ∀ (c : V) (F : List Nat) (u : Value), (∀ k ∈ F, I' k) -> V.O P I w F c u -> V.R P I' bY w (V.fz c) u
 | c, F, u, hF, h => by
  cases hc : c.isO with
  | false =>
   rw [QX hc]
   exact ((si hc).1 h).2.keep (.refl w (fun _ => False)) b5 (.refl _)
  | true =>
   cases c
   case osl T n o cs =>
    rw [CB]
    simp only [V.R]
    rcases sg.1 h with ⟨rfl, rfl, a', rfl, cY⟩ | ⟨g, cap, i, cells, fr, F', rfl, rfl, h3, h4, h5, h6, h7, h8, h9, iz⟩
    ·exact ⟨a', 0, rfl, Nat.le_refl _, fun _ => rfl, cY.imp (fun h => ⟨h, rfl⟩) id, .inr (.inl rfl)⟩
    ·have Ie : V.RL P I' bY w (fzS o cs) (cells.toList.take cs.length) := by
      cases o with
      | true => exact CA b5 cs F' _ (fun k hk => hF k (by simp [hk])) iz
      | false => exact iz.2.keep (.refl w (fun _ => False)) b5 (.refl _)
     have hl := Ie.length
     have dK : (cells.toList.take cs.length).length = cs.length := by rw [List.length_take]; simp only [Array.length_toList]; omega
     rw [dK] at hl
     exact ⟨_, cap, rfl, h3, by simp, .inr ⟨_, _, rfl⟩, .inr <| .inr ⟨g, 0, rfl, hF g (by simp), cells, _, fr, h6, by rw [<- hl]; exact Ie⟩⟩
   all_goals simp [V.isO] at hc
theorem CA {I I' : Nat -> Prop} {w : World} (b5 : Sub I I') : ∀ (cs : List V) (F : List Nat) (us : List Value), (∀ k ∈ F, I' k) -> V.OL P I w F cs us -> V.RL P I' bY w (V.fzL cs) us
 | [], F, us, _, h => by
  obtain ⟨_, rfl⟩ := kG.1 h
  rw [V.fzL]; simp [V.RL]
 | c :: cs, F, us, hF, h => by
  obtain ⟨u, us', F1, F2, rfl, rfl, h1, h2⟩ := ll.1 h
  rw [V.fzL]
  simp only [V.RL]
  exact ⟨u, us', rfl, CC b5 c F1 u (fun k hk => hF k (by simp [hk])) h1, CA b5 cs F2 us' (fun k hk => hF k (by simp [hk])) h2⟩
end
theorem QW {I I' : Nat -> Prop} {w : World} (b5 : Sub I I') {o : Bool} {F : List Nat} {c : List V} {us : List Value} (hF : ∀ k ∈ F, I' k) (h : OS P I w o F c us) : V.RL P I' bY w (fzS o c) us := by
 cases o
 ·exact h.2.keep (.refl w (fun _ => False)) b5 (.refl _)
 ·exact CA b5 c F us hF h
theorem yD {I I' : Nat -> Prop} {μ : Mu} {w : World} {f : V -> V} (h : ∀ c F u, (∀ k ∈ F, I' k) -> OX P I μ w F c u -> V.R P I' bY w (f c) u) (b5 : Sub I I') : ∀ {l : List V} {F : List Nat} {vs : List Value}, (∀ k ∈ F, I' k) -> CR P I μ w F l vs -> V.RL P I' bY w (frzSeg f l) vs
 | [], F, _, _, k => by
  obtain ⟨_, rfl⟩ := CR.fp.1 k
  simp [frzSeg, V.RL]
 | x :: t, F, vs, hF, k => by
  rcases fu x with ⟨o, c, rfl⟩ | hx
  ·obtain ⟨us, cD, F1, F2, rfl, rfl, h1, h2⟩ := CR.fM.1 k
   rw [QQ]
   exact (QW b5 (fun k hk => hF k (by simp [hk])) h1).append (yD h b5 (fun k hk => hF k (by simp [hk])) h2)
  ·obtain ⟨u, us, F1, F2, rfl, rfl, h1, h2⟩ := (CR.eF hx).1 k
   rw [QP hx]
   simp only [V.RL]
   exact ⟨u, us, rfl, h _ _ _ (fun k hk => hF k (by simp [hk])) h1, yD h b5 (fun k hk => hF k (by simp [hk])) h2⟩
theorem zo {I I' : Nat -> Prop} {μ μ' : Mu} {w : World} {f : V -> V} (h : ∀ c u, V.R P I μ w c u -> V.R P I' μ' w (f c) u) (hf : ∀ c, c.isO = true -> f c = c) (hs : ∀ o c, f (mkS o c) = mkS o c) (b5 : Sub I I') : ∀ {l : List V} {F : List Nat} {vs : List Value}, CR P I μ w F l vs -> CR P I' μ' w F (l.map f) vs
 | [], F, _, k => CR.fp.2 (CR.fp.1 k)
 | x :: t, F, vs, k => by
  rw [List.map_cons]
  rcases fu x with ⟨o, c, rfl⟩ | hx
  ·obtain ⟨us, cD, F1, F2, rfl, rfl, h1, h2⟩ := CR.fM.1 k
   rw [hs]
   exact CR.fM.2 ⟨us, cD, F1, F2, rfl, rfl, h1.keep (.refl w (fun _ => False)) b5 (fun _ _ h => h), zo h hf hs b5 h2⟩
  ·obtain ⟨u, us, F1, F2, rfl, rfl, h1, h2⟩ := (CR.eF hx).1 k
   cases hc : x.isO with
   | true =>
    rw [hf x hc]
    unfold OX at h1
    rw [hc] at h1
    exact (CR.eF hx).2 ⟨u, us, F1, F2, rfl, rfl, xO (V.O.keep (.refl w (fun _ => False)) b5 x F1 u (fun _ _ h => h) h1), zo h hf hs b5 h2⟩
   | false =>
    obtain ⟨rfl, iy⟩ := h1.plain hc
    have h3 := h _ _ iy
    exact (CR.eF (Bi h3)).2 ⟨u, us, [], F2, rfl, rfl, sf h3, zo h hf hs b5 h2⟩
mutual
theorem Bh {I : Nat -> Prop} {μ : Mu} {w : World} : ∀ (v : V) (u : Value), V.R P I μ w v u -> V.R P I μ w (V.can v) u
 | .int _ _, _, h => by simpa only [V.can, V.R] using h
 | .bool _, _, h => by simpa only [V.can, V.R] using h
 | .str _, _, h => by simpa only [V.can, V.R] using h
 | .iI, _, h => by simpa only [V.can, V.R] using h
 | .ptr _ _, _, h => by simpa only [V.can, V.R] using h
 | .sl _ _ _ _, _, h => by simpa only [V.can, V.R] using h
 | .dsl _ _ _, _, h => by
  simp only [V.can, V.R] at h ⊢
  obtain ⟨a, cap, h1, h2, _, h4, h5⟩ := h
  exact ⟨a, cap, h1, h2, by simp, h4, h5⟩
 | .dptr _, _, h => by simpa only [V.can, V.R] using h
 | .aJ _, _, h => by simp [V.R] at h
 | .cu _, _, h => by simp [V.R] at h
 | .eptr _ _ _, _, h => by simpa only [V.can, V.R] using h
 | .osl _ _ _ _, _, h => by simp [V.R] at h
 | .agg cs, _, h => by
  simp only [V.can, V.R] at h ⊢
  obtain ⟨vs, h1, h2⟩ := h
  exact ⟨vs, h1, Bg cs _ h2⟩
 | .tup cs, _, h => by
  simp only [V.can, V.R] at h ⊢
  obtain ⟨vs, h1, h2⟩ := h
  exact ⟨vs, h1, Bg cs _ h2⟩
 | .fn _ cs, _, h => by simpa only [V.can, V.R] using h
 | .box _ cs, _, h => by simpa only [V.can, V.R] using h
 | .jX, _, h => by simpa only [V.can, V.R] using h
 | .lit _, _, h => by simpa only [V.can, V.R] using h
 | .b9, _, _ => by simp [V.can, V.R]
theorem Bg {I : Nat -> Prop} {μ : Mu} {w : World} : ∀ (cs : List V) (us : List Value), V.RL P I μ w cs us -> V.RL P I μ w (V.kM cs) us
 | [], _, h => by simpa only [V.kM, V.RL] using h
 | c :: cs, _, h => by
  simp only [V.kM, V.RL] at h ⊢
  obtain ⟨u, us', h1, h2, h3⟩ := h
  exact ⟨u, us', h1, Bh c u h2, Bg cs us' h3⟩
end
theorem HQ {x : V} {t : List V} (hx : x.seals = none) : fV (x :: t) = V.can x :: fV t := by
 cases x <;> first | rfl | simp [V.seals] at hx
theorem OE (x : V) : (V.can x).isO = x.isO := by cases x <;> first | rfl | (simp only [V.can]; done)
theorem OD {x : V} (h : x.isO = true) : V.can x = x := by cases x <;> first | (simp [V.isO] at h; done) | (simp only [V.can])
theorem CR.kM {I : Nat -> Prop} {μ : Mu} {w : World} : ∀ {l : List V} {F : List Nat} {vs : List Value}, V.refsL l = [] -> CR P I μ w F l vs -> OS P I w (hasO l) F (fV l) vs
 | [], F, _, _, h => by
  obtain ⟨rfl, rfl⟩ := CR.fp.1 h
  exact Bb
 | x :: t, F, vs, hr, h => by
  simp only [V.refsL, List.append_eq_nil_iff] at hr
  have ht : ∀ {F : List Nat} {vs : List Value}, CR P I μ w F t vs -> V.OL P I w F (fV t) vs := fun h => (CR.kM hr.2 h).nU
  have Iu : hasO (x :: t) = (hasO [x] || hasO t) := by simp [hasO]
  rcases fu x with ⟨o, c, rfl⟩ | hx
  ·obtain ⟨us, cD, F1, F2, rfl, rfl, h1, h2⟩ := CR.fM.1 h
   rw [HR]
   have ho : hasO [mkS o c] = o := by cases o <;> rfl
   rw [Iu, ho]
   have ih := CR.kM hr.2 h2
   cases o
   ·rw [Bool.false_or]
    obtain ⟨rfl, h1⟩ := h1
    cases hq : hasO t with
    | false =>
     rw [hq] at ih
     exact ⟨ih.1, h1.append ih.2⟩
    | true =>
     show V.OL P I w _ _ _
     exact (Ba h1).append ih.nU
   ·rw [Bool.true_or]
    show V.OL P I w _ _ _
    exact h1.nU.append ih.nU
  ·obtain ⟨u, us, F1, F2, rfl, rfl, h1, h2⟩ := (CR.eF hx).1 h
   rw [HQ hx]
   have ih := CR.kM hr.2 h2
   rw [Iu]
   cases hc : x.isO with
   | true =>
    have : hasO [x] = true := by cases x <;> first | rfl | simp [V.isO] at hc
    rw [this, Bool.true_or, OD hc]
    unfold OX at h1
    rw [hc] at h1
    show V.OL P I w _ _ _
    exact ll.2 ⟨u, us, F1, F2, rfl, rfl, h1, ih.nU⟩
   | false =>
    obtain ⟨rfl, iy⟩ := h1.plain hc
    have h3 := Bh x u (xT x u hr.1 iy)
    cases hq : (hasO [x] || hasO t) with
    | true =>
     show V.OL P I w _ _ _
     exact ll.2 ⟨u, us, [], F2, rfl, rfl, (si (by rw [OE]; exact hc)).2 ⟨rfl, h3⟩, ih.nU⟩
    | false =>
     rw [Bool.or_eq_false_iff] at hq
     rw [hq.2] at ih
     refine ⟨ih.1, ?_⟩
     simp only [V.RL]
     exact ⟨u, us, rfl, h3, ih.2⟩
theorem QN {hp : Hp} {kept : List Nat} {m n : Nat} {x : V} (hx : x.seals = none) : (frzIn P hp kept m n x).seals = none := by
 cases n with
 | zero => rfl
 | succ n =>
  cases x <;> first | (simp [V.seals] at hx; done) | skip
  all_goals (unfold frzIn; repeat' split)
  all_goals first | rfl | (rename_i h; cases h; rfl)
theorem QR {hp : Hp} {kept : List Nat} {m n : Nat} {x : V} (hx : x.seals = none) : (frz P hp kept m n x).seals = none := by
 cases n with
 | zero => rfl
 | succ n =>
  cases x <;> first | (simp [V.seals] at hx; done) | skip
  all_goals (unfold frz; repeat' split)
  all_goals first | rfl | (exact QN rfl) | (rename_i h; cases h; rfl)
theorem Ct {f : V -> V} (hs : ∀ o c, f (mkS o c) = mkS o c) (hf : ∀ x, x.seals = none -> (f x).seals = none) : ∀ l : List V, (flat (l.map f)).length = (flat l).length
 | [] => rfl
 | x :: t => by
  rw [List.map_cons]
  rcases fu x with ⟨o, c, rfl⟩ | hx
  ·rw [hs, gF, gF, List.length_append, List.length_append, Ct hs hf t]
  ·rw [eW hx, eW (hf x hx), List.length_cons, List.length_cons, Ct hs hf t]
structure lq (P : Program) (m : Nat) (s s' : St) : Prop where
 st : ∀ aZ : Hp, aZ.length = m -> SR aZ s -> SR aZ s'
 run : ∀ {aZ : Hp} {I0 : Nat -> Prop} {μ0 : Mu} {w0 : World}, aZ.length = m -> ∀ {a : Act} {w : World} {Im : Nat -> Prop} {μ : Mu}, CI P aZ I0 μ0 w0 s a w Im μ -> ∃ cJ μ', CI P aZ I0 μ0 w0 s' a w cJ μ'
def normTm (P : Program) (hp : Hp) (perm : List Nat) (m : Nat) (tm : Tm) : List Nat -> Tm -> Tm
 | [], t => t
 | i :: is, t => normTm P hp perm m tm is (t.put i (frz P hp perm m 100 (tm.get i)))
def fe (P : Program) (m : Nat) (keep perm : List Nat) (s : St) : St :=
 ⟨normTm P s.hp perm m s.tm keep ⟨s.tm.n, Tr.mk0 11⟩,
  perm.map (fun b => if decide (b < m) && !s.wr.contains b then s.hp.getD b none else (s.hp.getD b none).map fun blk => (blk.1.map (frz P s.hp perm m 100), blk.2)),
  (s.wr.filter fun b => decide (b < m)).eraseDups⟩
theorem KJ (hp : Hp) (perm : List Nat) (m : Nat) (tm : Tm) (t : Nat) : ∀ (is : List Nat) (t0 : Tm), (normTm P hp perm m tm is t0).get t = t0.get t \/ (normTm P hp perm m tm is t0).get t = .b9 \/ (normTm P hp perm m tm is t0).get t = frz P hp perm m 100 (tm.get t)
 | [], _ => .inl rfl
 | i :: is, t0 => by
  unfold normTm
  rcases KJ hp perm m tm t is (t0.put i (frz P hp perm m 100 (tm.get i))) with h | h | h
  ·by_cases e : i = t
   ·subst e
    rcases t0.get_eq i (frz P hp perm m 100 (tm.get i)) with h2 | h2
    ·right; right; rw [h, h2.1]
    ·right; left; rw [h, h2]
   ·left; rw [h, t0.oU _ e]
  ·exact .inr (.inl h)
  ·exact .inr (.inr h)
theorem KK (hp : Hp) (perm : List Nat) (m : Nat) (tm : Tm) : ∀ (is : List Nat) (t0 : Tm), (normTm P hp perm m tm is t0).n = t0.n
 | [], _ => rfl
 | _ :: is, t0 => by unfold normTm; rw [KK hp perm m tm is]; rfl
def ib (m : Nat) (perm : List Nat) : Bool := (List.range m).all (fun j => perm[j]? == some j) && decide perm.Nodup
structure eU (P : Program) (m : Nat) (s s' : St) (f : V -> V) : Prop where
 st : ∀ aZ : Hp, aZ.length = m -> SR aZ s -> SR aZ s'
 run : ∀ {aZ : Hp} {I0 : Nat -> Prop} {μ0 : Mu} {w0 : World}, aZ.length = m -> ∀ {a : Act} {w : World} {Im : Nat -> Prop} {μ : Mu}, CI P aZ I0 μ0 w0 s a w Im μ -> ∃ cJ μ', CI P aZ I0 μ0 w0 s' a w cJ μ' /\ ∀ v u, V.R P Im μ w v u -> V.R P cJ μ' w (f v) u
theorem re {m : Nat} {keep ids : List Nat} {s : St} (hp : ib m ids = true) : eU P m s (fe P m keep ids s) (frz P s.hp ids m 100) := by
 unfold ib at hp
 rw [Bool.and_eq_true, List.all_eq_true, decide_eq_true_eq] at hp
 obtain ⟨Sl, tx⟩ := hp
 have yR : ∀ j, j < m -> ids[j]? = some j := fun j hj => by simpa using Sl j (by simpa using hj)
 have hlen : m <= ids.length := by
  rcases Nat.lt_or_ge ids.length m with h | h
  ·have := yR ids.length h
   simp at this
  ·exact h
 constructor
 ·intro aZ e cG
  have pc : ∀ b, b < m -> s.hp[b]? = some (s.hp.getD b none) := by
   intro b hb
   have : b < s.hp.length := by have := cG.len; omega
   rw [List.getD_eq_getElem?_getD, List.getElem?_eq_getElem this]; rfl
  refine ⟨by simp only [fe, List.length_map]; omega, fun b hb hn => ?_, fun b hb h => ?_⟩
  ·have eZ : b ∉ s.wr := fun h => hn (by simp only [fe, List.mem_eraseDups, List.mem_filter]; exact ⟨h, by simpa using (show b < m by omega)⟩)
   simp only [fe]
   rw [List.getElem?_map, yR b (by omega)]
   simp only [Option.map_some]
   rw [if_pos (by simp [eZ, show b < m by omega]), <- pc b (by omega)]
   exact cG.frame b hb eZ
  ·obtain ⟨blk, h⟩ := h
   simp only [fe] at h
   rw [List.getElem?_map, yR b (by omega)] at h
   simp only [Option.map_some, Option.some.injEq] at h
   refine cG.alive b hb ?_
   split at h
   ·exact ⟨blk, by rw [pc b (by omega), h]⟩
   ·obtain ⟨bW, h0, _⟩ := Option.map_eq_some_iff.1 h
    exact ⟨bW, by rw [pc b (by omega), h0]⟩
 ·intro aZ I0 μ0 w0 e a w Im μ C
  subst e
  have pf : ∀ j, j < aZ.length -> ids[j]? = some j := by
   intro j hj
   exact yR j hj
  have R5 : ∀ j b, aZ.length <= j -> ids[j]? = some b -> aZ.length <= b := by
   intro j b hj hb
   rcases Nat.lt_or_ge b aZ.length with h | h
   ·have h1 := lT tx (pf b h)
    rw [lT tx hb] at h1
    cases h1; omega
   ·exact h
  let μr : Mu := ⟨fun j => match ids[j]? with
   | some b => μ b
   | none => none, fun j => match ids[j]? with
   | some b => μ.ft b
   | none => []⟩
  have iE : ∀ j b, ids[j]? = some b -> μr.ft j = μ.ft b := by intro j b h; simp [μr, h]
  have fo : ∀ j b g, ids[j]? = some b -> μr.own j g -> μ.own b g := by
   intro j b g h hg
   rcases hg with hg | hg
   ·left; simpa [μr, h] using hg
   ·rw [iE j b h] at hg; exact .inr hg
  have tF : ∀ j b, ids[j]? = some b -> μr j = μ b := by intro j b h; simp [μr, h]
  have hρ : ∀ b b' g, pos ids b = some b' -> μ b = some g -> μr b' = some g := by
   intro b b' g hb hg; rw [tF b' b (zH hb)]; exact hg
  let Ir : Nat -> Prop := fun k => Im k \/ ∃ b, b ∉ ids /\ aZ.length <= b /\ dt s.hp b /\ μ.own b k
  have b5 : Sub Im Ir := fun k h => .inl h
  have yT : ∀ b blk g, b ∈ ids -> s.hp[b]? = some (some blk) -> μ.own b g -> ¬ Ir g := by
   rintro b blk g gk hb hg (h | ⟨c, gV, _, ⟨bG, hc⟩, bZ⟩)
   ·exact (C.holds b blk hb).ku hg h
   ·exact C.inj b c _ _ g (by rintro rfl; exact gV gk) hb hc hg bZ
  have hE : cy Im w w (fun _ => False) := .refl _ _
  have QO : ∀ (n : Nat) (c : V) (u : Value), V.R P Im μ w c u -> V.R P Ir bY w (frzIn P s.hp ids aZ.length n c) u := by
   intro n
   induction n with
   | zero => intro c u _; simp [frzIn, V.R]
   | succ n ih =>
    have jV : ∀ (cs : List V) (us : List Value), V.RL P Im μ w cs us -> V.RL P Ir bY w (cs.map (frzIn P s.hp ids aZ.length n)) us := by
     intro cs
     induction cs with
     | nil => intro us h; simpa [V.RL] using h
     | cons c cs ks =>
      intro us h
      simp only [V.RL] at h
      obtain ⟨u, us', rfl, h1, h2⟩ := h
      simp only [List.map_cons, V.RL]
      exact ⟨u, us', rfl, ih c u h1, ks us' h2⟩
    have vS : ∀ (c : V) (F : List Nat) (u : Value), (∀ k ∈ F, Ir k) -> OX P Im μ w F c u -> V.R P Ir bY w (frzIn P s.hp ids aZ.length n c) u := by
     intro c F u hF h
     cases hc : c.isO with
     | false => exact ih c u (h.plain hc).2
     | true =>
      unfold OX at h
      rw [hc] at h
      cases n with
      | zero => simp [frzIn, V.R]
      | succ n =>
       have := CC b5 c F u hF h
       cases c <;> first | (simp [V.isO] at hc; done) | (rw [CB] at this; exact this)
    have zl : ∀ (cs : List V) (F : List Nat) (us : List Value), (∀ k ∈ F, Ir k) -> OXL P Im μ w F cs us -> V.RL P Ir bY w (cs.map (frzIn P s.hp ids aZ.length n)) us := by
     intro cs
     induction cs with
     | nil => intro F us _ h; obtain ⟨_, rfl⟩ := h; simp [V.RL]
     | cons c cs ks =>
      intro F us hF h
      obtain ⟨u, us', F1, F2, rfl, rfl, h1, h2⟩ := h
      simp only [List.map_cons, V.RL]
      exact ⟨u, us', rfl, vS c F1 u (fun k hk => hF k (by simp [hk])) h1, ks F2 us' (fun k hk => hF k (by simp [hk])) h2⟩
    intro c u h
    unfold frzIn
    split
    ·rename_i b off k full
     split
     ·simp [V.R]
     ·rename_i hc
      simp only [Bool.or_eq_true, decide_eq_true_eq, not_or] at hc
      split
      ·rename_i blk hb
       split
       ·rename_i kQ
        split
        ·rename_i jq
         have Dd : off = 0 := by simpa using jq
         subst Dd
         simp only [V.R] at h ⊢
         rcases h with ⟨g, cap, e, N, i, hg, rfl, h1, h2, h3, c8, _⟩ | ⟨_, rfl, a', rfl, cY⟩
         ·obtain ⟨cs, fr, _, hw, _, ⟨h4, h5⟩, _⟩ := (C.holds b blk hb).kZ hg c8
          have hF : ∀ k ∈ μ.ft b, Ir k := fun k hk => .inr ⟨b, by simpa using hc.1, by omega, ⟨blk, hb⟩, .inr hk⟩
          have h6 := yD (f := frzIn P s.hp ids aZ.length n) vS b5 hF h5
          have h7 := h6.length
          refine ⟨some ⟨g, 0, none⟩, cap, rfl, h1, by simp, .inr ⟨_, _, rfl⟩, .inr <| .inr ⟨g, 0, rfl, .inr ⟨b, by simpa using hc.1, by omega, ⟨blk, hb⟩, .inl hg⟩, cs, _, fr, hw, ?_⟩⟩
          rw [List.drop_zero]
          rw [List.length_take, Nat.min_eq_left (by simpa using h4)] at h7
          rw [<- h7]
          exact h6
         ·exact ⟨a', 0, rfl, Nat.le_refl _, by simp, cY.imp (fun h => ⟨h, rfl⟩) id, .inr (.inl rfl)⟩
        ·simp [V.R]
       ·rename_i kQ
        have iD := iU kQ
        split
        ·rename_i sz cM
         split
         ·rename_i hl
          simp only [V.R] at h ⊢
          rcases h with ⟨g, cap, e, N, i, hg, rfl, h1, h2, h3, c8, _⟩ | ⟨_, rfl, a', rfl, cY⟩
          ·obtain ⟨cs, fr, _, hw, _, ⟨h4, h5⟩, _⟩ := (C.holds b blk hb).kZ hg c8
           have hF : ∀ k ∈ μ.ft b, Ir k := fun k hk => .inr ⟨b, by simpa using hc.1, by omega, ⟨blk, hb⟩, .inr hk⟩
           have h5 := h5.la
           rw [iD] at h4 h5
           refine ⟨some ⟨g, off, none⟩, cap, rfl, h1, by simp, .inr ⟨_, _, rfl⟩, .inr <| .inr ⟨g, off, rfl, .inr ⟨b, by simpa using hc.1, by omega, ⟨blk, hb⟩, .inl hg⟩, cs, _, fr, hw, ?_⟩⟩
           obtain ⟨F1, F2, ve, _, h6⟩ := h5.split off
           obtain ⟨F3, F4, CH, h6, _⟩ := h6.split (k * sz)
           rw [List.length_map, hl]
           have e1 : (cs.toList.drop off).take (k * sz) = ((cs.toList.take blk.1.length).drop off).take (k * sz) := by
            simp only [List.length_take, List.length_drop] at hl
            rw [List.drop_take, List.take_take, Nat.min_eq_left (by omega)]
           rw [e1]
           exact zl _ F3 _ (fun k hk => hF k (by rw [ve, CH]; simp [hk])) h6
          ·exact ⟨a', 0, rfl, Nat.le_refl _, by simp, cY.imp (fun h => ⟨h, rfl⟩) id, .inr (.inl rfl)⟩
         ·simp [V.R]
        ·simp [V.R]
      ·simp [V.R]
    ·simp [V.R]
    ·simp only [V.R] at h ⊢; obtain ⟨vs, h1, h2⟩ := h; exact ⟨vs, h1, jV _ _ h2⟩
    ·simp only [V.R] at h ⊢; obtain ⟨vs, h1, h2⟩ := h; exact ⟨vs, h1, jV _ _ h2⟩
    ·simp only [V.R] at h ⊢; obtain ⟨vs, h1, h2⟩ := h; exact ⟨vs, h1, jV _ _ h2⟩
    ·simp only [V.R] at h ⊢; obtain ⟨vs, h1, h2⟩ := h; exact ⟨vs, h1, jV _ _ h2⟩
    ·simp only [V.R] at h ⊢
     obtain ⟨a, cap, h1, h2, _, h4, h5⟩ := h
     refine ⟨a, cap, h1, h2, by simp, h4, ?_⟩
     rcases h5 with h5 | h5 | ⟨g, off, k1, k2, k3⟩
     ·exact .inl h5
     ·exact .inr (.inl h5)
     ·obtain ⟨cells, e, fr, k4, k5⟩ := k3
      exact .inr <| .inr ⟨g, off, k1, b5 _ k2, cells, e, fr, k4, k5.keep hE b5 (df.refl _)⟩
    ·simp [V.R] at h
    ·simp [V.R]
    ·rename_i h1 h2 h3 h4 h5 h7 h6 h8 h9
     cases c
     case osl => exact absurd rfl (h8 _ _ _ _)
     case eptr => exact absurd rfl (h9 _ _ _)
     case ptr => exact absurd rfl (h2 _ _)
     case sl => exact absurd rfl (h1 _ _ _ _)
     case agg => exact absurd rfl (h3 _)
     case tup => exact absurd rfl (h4 _)
     case fn => exact absurd rfl (h5 _ _)
     case box => exact absurd rfl (h7 _ _)
     case dsl => exact absurd rfl (h6 _ _ _)
     case dptr => exact (h.keep hE b5 (df.refl _) : V.R P Ir μ w _ u) |> (fun h => by simpa only [V.R] using h)
     all_goals (first | (simp only [V.R] at h; done) | (simp only [V.R]; done) | (simp only [V.R] at h ⊢; exact h))
  have Cx : ∀ (n : Nat) (c : V) (u : Value), V.R P Im μ w c u -> V.R P Ir μr w (frz P s.hp ids aZ.length n c) u := by
   intro n
   induction n with
   | zero => intro c u _; simp [frz, V.R]
   | succ n ih =>
    have jV : ∀ (cs : List V) (us : List Value), V.RL P Im μ w cs us -> V.RL P Ir μr w (cs.map (frz P s.hp ids aZ.length n)) us := by
     intro cs
     induction cs with
     | nil => intro us h; simpa [V.RL] using h
     | cons c cs ks =>
      intro us h
      simp only [V.RL] at h
      obtain ⟨u, us', rfl, h1, h2⟩ := h
      simp only [List.map_cons, V.RL]
      exact ⟨u, us', rfl, ih c u h1, ks us' h2⟩
    intro c u h
    unfold frz
    split
    ·rename_i b off k full
     split
     ·rename_i j hj
      simp only [V.R] at h ⊢
      rcases h with ⟨g, cap, e, N, i, hg, r⟩ | h
      ·exact .inl ⟨g, cap, e, N, i, hρ b j g hj hg, r⟩
      ·exact .inr h
     ·exact sj (QO (n + 1) _ u h)
    ·rename_i b off
     split
     ·rename_i j hj
      simp only [V.R] at h ⊢
      obtain ⟨g, hg, r⟩ := h
      exact ⟨g, hρ b j g hj hg, r⟩
     ·simp [V.R]
    ·rename_i b base rel
     split
     ·rename_i j hj
      simp only [V.R] at h ⊢
      obtain ⟨g, hg, r⟩ := h
      exact ⟨g, hρ b j g hj hg, r⟩
     ·simp [V.R]
    ·simp only [V.R] at h ⊢; obtain ⟨vs, h1, h2⟩ := h; exact ⟨vs, h1, jV _ _ h2⟩
    ·simp only [V.R] at h ⊢; obtain ⟨vs, h1, h2⟩ := h; exact ⟨vs, h1, jV _ _ h2⟩
    ·simp only [V.R] at h ⊢; obtain ⟨vs, h1, h2⟩ := h; exact ⟨vs, h1, jV _ _ h2⟩
    ·simp only [V.R] at h ⊢; obtain ⟨vs, h1, h2⟩ := h; exact ⟨vs, h1, jV _ _ h2⟩
    ·rename_i h1 h2 h7 h3 h4 h5 h6
     cases c
     case eptr => exact absurd rfl (h7 _ _ _)
     case ptr => exact absurd rfl (h2 _ _)
     case sl => exact absurd rfl (h1 _ _ _ _)
     case agg => exact absurd rfl (h3 _)
     case tup => exact absurd rfl (h4 _)
     case fn => exact absurd rfl (h5 _ _)
     case box => exact absurd rfl (h6 _ _)
     case dsl => exact (h.keep hE b5 (df.refl _) : V.R P Ir μ w _ u) |> (fun h => by simpa only [V.R] using h)
     case dptr => exact (h.keep hE b5 (df.refl _) : V.R P Ir μ w _ u) |> (fun h => by simpa only [V.R] using h)
     all_goals (first | (simp only [V.R] at h; done) | (simp only [V.R]; done) | (simp only [V.R] at h ⊢; exact h))
  have hle : df μ0 μr := by
   intro b g hg
   rw [tF b b (pf b (C.m8.cz b g hg))]
   exact C.le b g hg
  have ga : ∀ b, b ∈ ((s.wr.filter fun b => decide (b < aZ.length)).eraseDups) ↔ b ∈ s.wr /\ b < aZ.length := by intro b; simp
  have aL : ∀ (j : Nat) (blk : bM), (fe P aZ.length keep ids s).hp[j]? = some (some blk) -> ∃ b, ids[j]? = some b /\ ((b < aZ.length /\ b ∉ s.wr /\ s.hp[b]? = some (some blk)) \/ ∃ bW : bM, s.hp[b]? = some (some bW) /\ blk = (bW.1.map (frz P s.hp ids aZ.length 100), bW.2)) := by
   intro j blk h
   simp only [fe] at h
   rw [List.getElem?_map] at h
   obtain ⟨b, hb, h⟩ := Option.map_eq_some_iff.1 h
   refine ⟨b, hb, ?_⟩
   have pc : ∀ x : bM, s.hp.getD b none = some x -> s.hp[b]? = some (some x) := by
    intro x hx
    rw [List.getD_eq_getElem?_getD] at hx
    cases hq : s.hp[b]? with
    | none => rw [hq] at hx; cases hx
    | some y => rw [hq] at hx; simp at hx; rw [hx]
   split at h
   ·rename_i hc
    simp only [Bool.and_eq_true, decide_eq_true_eq, Bool.not_eq_true'] at hc
    exact .inl ⟨hc.1, by simpa using hc.2, pc _ h⟩
   ·obtain ⟨bW, h0, rfl⟩ := Option.map_eq_some_iff.1 h
    exact .inr ⟨bW, pc _ h0, rfl⟩
  have cA : ∀ (j : Nat) (blk : bM), (fe P aZ.length keep ids s).hp[j]? = some (some blk) -> ∃ (b : Nat) (bW : bM), ids[j]? = some b /\ s.hp[b]? = some (some bW) := by
   intro j blk h
   obtain ⟨b, hb, h⟩ := aL j blk h
   rcases h with ⟨_, _, h⟩ | ⟨bW, h, _⟩
   ·exact ⟨b, _, hb, h⟩
   ·exact ⟨b, _, hb, h⟩
  have pc : ∀ b, b < aZ.length -> s.hp[b]? = some (s.hp.getD b none) := by
   intro b hb
   have : b < s.hp.length := by have := C.len; omega
   rw [List.getD_eq_getElem?_getD, List.getElem?_eq_getElem this]; rfl
  refine ⟨Ir, μr, ?_, fun v u h => Cx 100 v u h⟩
  have R2 : ∀ c : V, c.isO = true -> frz P s.hp ids aZ.length 100 c = c := by
   intro c hc
   cases c <;> first | (simp [V.isO] at hc; done) | rfl
  have I3 : ∀ j b, ids[j]? = some b -> μ b = none -> μr j = none := fun j b h h0 => by rw [tF j b h]; exact h0
  refine ⟨fun t => ?_, ?_, C.defers, fun j blk h => ?_, fun j k b1 b2 g bp h1 h2 g1 g2 => ?_, fun j g hg => ?_, fun j g hg hj => ?_, fun j hj hn => ?_, ?_, hle, fun j hj blk h g hg => ?_, ?_, fun b hb hn => ?_, fun b hb h => ?_, fun b hb eY => ?_, fun k h => .inl (C.dq k h), fun k hk => ?_, C.dj.step (.refl w (fun _ => False)) (fun _ h => .inl h) fun k hk => ?_, C.m8⟩
  ·show V.R P Ir μr w ((normTm P s.hp ids aZ.length s.tm keep ⟨s.tm.n, Tr.mk0 11⟩).get t) _
   have h0 : (⟨s.tm.n, Tr.mk0 11⟩ : Tm).get t = .b9 := by
    unfold Tm.get
    cases Nat.blt t s.tm.n
    ·rfl
    ·exact Tr.zq _ _
   rcases KJ (P := P) s.hp ids aZ.length s.tm t keep ⟨s.tm.n, Tr.mk0 11⟩ with h | h | h
   ·rw [h, h0]; simp [V.R]
   ·rw [h]; simp [V.R]
   ·rw [h]; exact Cx 100 _ _ (C.tm t)
  ·show a.tmps.size = (normTm P s.hp ids aZ.length s.tm keep ⟨s.tm.n, Tr.mk0 11⟩).n
   rw [KK]; exact C.size
  ·obtain ⟨b, hb, h⟩ := aL j blk h
   rcases h with ⟨bI, eZ, h⟩ | ⟨bW, h0, rfl⟩
   ·have hj : j = b := by
     have h1 := lT tx (pf b bI)
     rw [lT tx hb] at h1
     cases h1; rfl
    subst hj
    have h0 : aZ[j]? = some (some blk) := by rw [<- C.frame j bI eZ]; exact h
    have ID : μ.ft j = μ0.ft j := C.cT j bI eZ
    refine (C.m8.holds j blk h0).keep C.cr (fun k h => .inl (C.dq k h)) hle (fun hn => I3 j j hb ?_) ((iE j j hb).trans ID) (fun g hg hx => ?_) (fun g hg => yT j blk g (List.mem_of_getElem? hb) h ?_)
    ·cases hq : μ j with
     | none => rfl
     | some g => rw [C.lv j g hq bI] at hn; cases hn
    ·obtain ⟨c, cf, bQ, bZ⟩ := hx
     obtain ⟨bG, bS⟩ := C.ur c cf bQ
     exact C.m8.inj j c _ _ g (by rintro rfl; exact eZ cf) h0 bS hg bZ
    ·rcases hg with hg | hg
     ·exact .inl (C.le j g hg)
     ·rw [<- ID] at hg; exact .inr hg
   ·have h6 : ∀ {F : List Nat} {vs : List Value}, CR P Im μ w F bW.1 vs -> CR P Ir μr w F (bW.1.map (frz P s.hp ids aZ.length 100)) vs := fun h => zo (f := frz P s.hp ids aZ.length 100) (fun c u h => Cx 100 c u h) R2 (fun o c => by cases o <;> rfl) b5 h
    have h7 : (flat (bW.1.map (frz P s.hp ids aZ.length 100))).length = (flat bW.1).length := by
     exact Ct (fun o c => by cases o <;> rfl) (fun x hx => QR hx) bW.1
    rcases C.holds b bW h0 with ⟨g, cs, fr, hg, I6, hw, h3, ⟨h4, h5⟩, h8, h9⟩ | ⟨k1, k3⟩ | ⟨g, es, ck, c, hg, I6, hw, rfl, h4, h5⟩
    ·refine .inl ⟨g, cs, fr, by rw [tF j b hb]; exact hg, yT b bW g (List.mem_of_getElem? hb) h0 (.inl hg), hw, h3, ⟨?_, ?_⟩, by rw [iE j b hb]; exact h8, fun k hk => ?_⟩
     ·show (flat (bW.1.map (frz P s.hp ids aZ.length 100))).length <= _
      rw [h7]; exact h4
     ·show CR P Ir μr w (μr.ft j) (bW.1.map (frz P s.hp ids aZ.length 100)) (List.take (flat (bW.1.map (frz P s.hp ids aZ.length 100))).length _)
      rw [h7, iE j b hb]; exact h6 h5
     ·rw [iE j b hb] at hk
      exact ⟨yT b bW k (List.mem_of_getElem? hb) h0 (.inr hk), (h9 k hk).2⟩
    ·exact .inr (.inl ⟨I3 j b hb k1, by rw [iE j b hb]; exact k3⟩)
    ·exact .inr (.inr ⟨g, es, ck, c, by rw [tF j b hb]; exact hg, yT b _ g (List.mem_of_getElem? hb) h0 (.inl hg), hw, rfl, h4.keep (.refl w (fun _ => False)) b5, by rw [iE j b hb]; exact h5⟩)
  ·obtain ⟨b, bW, hb, h0⟩ := cA j b1 h1
   obtain ⟨c, oo, hc, h1⟩ := cA k b2 h2
   refine C.inj b c _ _ g (fun e => bp ?_) h0 h1 (fo j b g hb g1) (fo k c g hc g2)
   subst e
   have h3 := lT tx hb
   rw [lT tx hc] at h3
   cases h3; rfl
  ·cases hq : ids[j]? with
   | none => simp [μr, hq] at hg
   | some b => simpa [fe] using (List.getElem?_eq_some_iff.1 hq).1
  ·rw [tF j j (pf j hj)] at hg
   exact C.lv j g hg hj
  ·rw [iE j j (pf j hj)]
   exact C.cT j hj fun h => hn ((ga j).2 ⟨h, hj⟩)
  ·refine C.cr.mono fun k hk => ?_
   obtain ⟨b, hb, bI, hg⟩ := hk
   exact ⟨b, (ga b).2 ⟨hb, bI⟩, bI, hg⟩
  ·obtain ⟨b, bW, hb, h0⟩ := cA j blk h
   have CW : aZ.length <= b \/ b ∈ s.wr := by
    rcases hj with hj | hj
    ·exact .inl (R5 j b hj hb)
    ·have h3 := (ga j).1 hj
     rw [pf j h3.2] at hb; cases hb
     exact .inr h3.1
   rcases C.dI b CW bW h0 g (fo j b g hb hg) with h | ⟨c, cf, bQ, bZ, bS⟩
   ·exact .inl h
   ·exact .inr ⟨c, (ga c).2 ⟨cf, bQ⟩, bQ, bZ, bS⟩
  ·simp only [fe, List.length_map]; exact hlen
  ·have eZ : b ∉ s.wr := fun h => hn ((ga b).2 ⟨h, hb⟩)
   simp only [fe]
   rw [List.getElem?_map, pf b hb]
   simp only [Option.map_some]
   rw [if_pos (by simp [eZ, hb]), <- pc b hb]
   exact C.frame b hb eZ
  ·obtain ⟨blk, h⟩ := h
   obtain ⟨c, bW, hc, h0⟩ := cA b blk h
   rw [pf b hb] at hc; cases hc
   exact C.alive b hb ⟨bW, h0⟩
  ·exact C.ur b ((ga b).1 hb).1 eY
  ·rcases hk with h | ⟨b, gk, bI, ⟨blk, hb⟩, hg⟩
   ·rcases C.ei k h with h | h | ⟨c, cf, bQ, bZ, bS⟩
    ·exact .inl h
    ·exact .inr (.inl h)
    ·exact .inr (.inr ⟨c, (ga c).2 ⟨cf, bQ⟩, bQ, bZ, bS⟩)
   ·rcases C.dI b (.inl bI) blk hb k hg with h | ⟨c, cf, bQ, bZ, bS⟩
    ·exact .inr (.inl h)
    ·exact .inr (.inr ⟨c, (ga c).2 ⟨cf, bQ⟩, bQ, bZ, bS⟩)
  ·rcases hk with h | ⟨b, _, _, ⟨blk, hb⟩, hg⟩
   ·exact C.dj k h
   ·exact (C.holds b blk hb).lt hg
theorem Xk {m : Nat} {keep ids : List Nat} {s : St} (hp : ib m ids = true) : lq P m s (fe P m keep ids s) :=
 ⟨(re hp).st, fun e _ _ _ _ C => by
   obtain ⟨I', μ', h, _⟩ := (re (keep := keep) hp).run e C
   exact ⟨I', μ', h⟩⟩
theorem lq.trans {m : Nat} {a b c : St} (h : lq P m a b) (k : lq P m b c) : lq P m a c :=
 ⟨fun aZ e hs => k.st aZ e (h.st aZ e hs), fun e _ _ _ _ C => by
  obtain ⟨_, _, C'⟩ := h.run e C
  exact k.run e C'⟩
structure lr (P : Program) (m : Nat) (s s' : St) : Prop where
 st : ∀ aZ : Hp, aZ.length = m -> SR aZ s -> SR aZ s'
 run : ∀ {aZ : Hp} {I0 : Nat -> Prop} {μ0 : Mu} {w0 : World}, aZ.length = m -> ∀ {a : Act} {w : World} {Im : Nat -> Prop} {μ : Mu}, CI P aZ I0 μ0 w0 s a w Im μ -> CI P aZ I0 μ0 w0 s' a w Im μ
theorem lr.refl (m : Nat) (s : St) : lr P m s s := ⟨fun _ _ h => h, fun _ _ _ _ _ C => C⟩
theorem lr.trans {m : Nat} {a b c : St} (h : lr P m a b) (k : lr P m b c) : lr P m a c := ⟨fun aZ e hs => k.st aZ e (h.st aZ e hs), fun e _ _ _ _ C => k.run e (h.run e C)⟩
theorem lr.AD {m : Nat} {a b : St} (h : lr P m a b) : lq P m a b := ⟨h.st, fun e _ _ _ _ C => ⟨_, _, h.run e C⟩⟩
theorem yx : ∀ l : List V, (fV l).length = (flat l).length
 | [] => rfl
 | x :: t => by
  rcases fu x with ⟨o, c, rfl⟩ | hx
  ·rw [HR, gF, List.length_append, List.length_append, yx t]
  ·rw [HQ hx, eW hx, List.length_cons, List.length_cons, yx t]
theorem oS (o : Bool) (c : List V) : flat [mkS o c] = c := by rw [gF]; simp [flat]
theorem Holds.OC {I : Nat -> Prop} {μ : Mu} {w : World} {b : Nat} {blk : bM} (h : Holds P I μ w b blk) (hr : V.refsL blk.1 = []) : Holds P I μ w b ([mkS (hasO blk.1) (fV blk.1)], blk.2) := by
 have hl := yx blk.1
 rcases h with ⟨g, cs, fr, h1, h2, h3, h4, ⟨h5, h6⟩, h7, h8⟩ | ⟨h1, h3⟩ | ⟨g, es, ck, c, h1, h2, h3, rfl, h4, h5⟩
 ·refine .inl ⟨g, cs, fr, h1, h2, h3, h4, ⟨?_, ?_⟩, h7, h8⟩
  ·show (flat [_]).length <= _
   rw [oS, hl]; exact h5
  ·show CR P I μ w _ [_] (List.take (flat [_]).length _)
   rw [oS, hl]
   exact CR.rr (h6.kM hr)
 ·exact .inr (.inl ⟨h1, h3⟩)
 ·exact .inr (.inr ⟨g, es, ck, c, h1, h2, h3, rfl, h4, h5⟩)
theorem Z5 {m b : Nat} {s : St} : lr P m s (sealSt m b s) := by
 generalize h : sealSt m b s = s'
 unfold sealSt at h
 split at h
 case h_2 => subst h; exact .refl m s
 case h_1 blk hb =>
 split at h
 case h_2 => subst h; exact .refl m s
 case h_1 hm h2 =>
 subst h
 have hm' : m <= b \/ b ∈ s.wr := by
  simp only [Bool.and_eq_true, Bool.or_eq_true] at hm
  rcases hm.1 with h | h
  ·exact .inl (Nat.le_of_ble_eq_true h)
  ·exact .inr (by simpa using h)
 have bI : b < s.hp.length := eV hb
 have aL : ∀ (k : Nat) (bG : bM), (s.hp.set b (some ([mkS (hasO blk.1) (fV blk.1)], blk.2)))[k]? = some (some bG) -> (k = b /\ bG = ([mkS (hasO blk.1) (fV blk.1)], blk.2)) \/ (k ≠ b /\ s.hp[k]? = some (some bG)) := by
  intro k bG h
  rw [List.getElem?_set] at h
  split at h
  ·rename_i e
   cases h; exact .inl ⟨e.symm, rfl⟩
  ·rename_i e; exact .inr ⟨fun x => e x.symm, h⟩
 have cA : ∀ (k : Nat) (bG : bM), (s.hp.set b (some ([mkS (hasO blk.1) (fV blk.1)], blk.2)))[k]? = some (some bG) -> ∃ bW, s.hp[k]? = some (some bW) := by
  intro k bG h
  rcases aL k bG h with ⟨rfl, _⟩ | ⟨_, h⟩
  ·exact ⟨_, hb⟩
  ·exact ⟨_, h⟩
 have bp : ∀ k, k < m -> k ∉ s.wr -> (s.hp.set b (some ([mkS (hasO blk.1) (fV blk.1)], blk.2)))[k]? = s.hp[k]? := fun k hk hn => by
  rw [List.getElem?_set, if_neg]
  rintro rfl
  rcases hm' with h | h
  ·omega
  ·exact hn h
 constructor
 ·intro aZ e hs
  subst e
  refine ⟨by simpa using hs.len, fun k hk hn => by show (s.hp.set b _)[k]? = _; rw [bp k hk hn]; exact hs.frame k hk hn, fun k hk ⟨bG, du⟩ => hs.alive k hk (cA k bG du)⟩
 ·intro aZ I0 μ0 w0 e a w Im μ C
  subst e
  refine ⟨C.tm, C.size, C.defers, fun k bG h => ?_, fun k j b1 b2 g Se h1 h2 g1 g2 => ?_, fun k g hg => by simpa using C.cz k g hg, C.lv, C.cT, C.cr, C.le, fun k hk bG h g hg => ?_, by simpa using C.len, fun k hk hn => by show (s.hp.set b _)[k]? = _; rw [bp k hk hn]; exact C.frame k hk hn, fun k hk ⟨bG, du⟩ => C.alive k hk (cA k bG du), C.ur, C.dq, C.ei, C.dj, C.m8⟩
  ·rcases aL k bG h with ⟨rfl, rfl⟩ | ⟨_, h⟩
   ·exact (C.holds k blk hb).OC h2
   ·exact C.holds k bG h
  ·obtain ⟨_, k1⟩ := cA k b1 h1
   obtain ⟨_, k2⟩ := cA j b2 h2
   exact C.inj k j _ _ g Se k1 k2 g1 g2
  ·obtain ⟨_, k1⟩ := cA k bG h
   exact C.dI k hk _ k1 g hg
theorem zS {m : Nat} : ∀ (bs : List Nat) (s : St), lr P m s (sealAll m bs s)
 | [], s => .refl m s
 | b :: bs, s => Z5.trans (zS bs _)
theorem Z3 {m : Nat} (bs : List Nat) (s : St) : lq P m s (sealAll m bs s) := (zS bs s).AD
mutual
def V.zI : V -> List Nat
 | .ptr b _ => [b]
 | .agg cs => V.tM cs
 | .tup cs => V.tM cs
 | .fn _ cs => V.refsL cs
 | .box _ cs => V.refsL cs
 | _ => []
def V.tM : List V -> List Nat
 | [] => []
 | c :: cs => V.zI c ++ V.tM cs
end
structure Kp where
 keep : List Nat
 perm : Option (List Nat × List Nat) := none
 wr : List Nat := []
 pk : Option (TypeId -> Nat -> Option TypeId) := none
 ic : List Nat := []
 DY : List (Nat × TypeId) := []
 ua : Bool := false
 lX : List (Nat × Nat) := []
 wq : List Nat := []
def Kp.ids (k : Kp) (m : Nat) (s : St) : List Nat := match k.perm with
 | some p => p.1
 | none => match k.pk with
  | none => match k.ua with
   | false => reach s.hp 100000 (k.keep.flatMap fun i => (s.tm.get i).refs) (List.range m)
   | true => (List.range m ++ (k.keep.flatMap fun i => (s.tm.get i).refs).filter fun b => Nat.ble m b).eraseDups
  | some _ => (List.range m ++ (k.keep.flatMap fun i => (s.tm.get i).refs).filter fun b => Nat.ble m b).eraseDups
def Kp.seals (k : Kp) (m : Nat) (s : St) : List Nat := match k.perm with
 | some p => p.2
 | none => (List.range (k.ids m s).length).filter fun j => Nat.ble m j && !((k.keep.flatMap fun i => (s.tm.get i).zI) ++ (k.ids m s).flatMap fun b => match s.hp.getD b none with | some blk => V.tM blk.1 | none => []).contains ((k.ids m s).getD j 0)
def wrS (m : Nat) (ws : List Nat) (s : St) : St := match ws with
 | [] => s
 | _ :: _ => match (ws.all fun b => decide (b < m) && (match s.hp[b]? with | some (some _) => true | _ => false)) && s.wr.all fun b => ws.contains b with
  | true => ⟨s.tm, s.hp, ws⟩
  | false => s
theorem aj4 {m : Nat} {ws : List Nat} {s : St} : lr P m s (wrS m ws s) := by
 unfold wrS
 split
 ·exact .refl m s
 split
 case h_2 => exact .refl m s
 rename_i hc
 rw [Bool.and_eq_true, List.all_eq_true, List.all_eq_true] at hc
 obtain ⟨h1, h2⟩ := hc
 have b5 : ∀ b ∈ s.wr, b ∈ _ := fun b hb => by simpa only [List.contains_iff_mem] using h2 b hb
 constructor
 ·intro aZ e C
  exact ⟨C.len, fun b hb hn => C.frame b hb fun h => hn (b5 b h), C.alive⟩
 ·intro aZ I0 μ0 w0 e a w Im μ C
  subst e
  refine ⟨C.tm, C.size, C.defers, C.holds, C.inj, C.cz, C.lv, fun b hb hn => C.cT b hb fun h => hn (b5 b h), C.cr.mono fun k ⟨b, hb, hg⟩ => ⟨b, b5 b hb, hg⟩, C.le, fun b hb blk hk g hg => ?_, C.len, fun b hb hn => C.frame b hb fun h => hn (b5 b h), C.alive, fun b hb hl => ?_, C.dq, fun k hk => ?_, C.dj, C.m8⟩
  ·by_cases bX : aZ.length <= b \/ b ∈ s.wr
   ·rcases C.dI b bX blk hk g hg with h | ⟨c, k1, k2⟩
    ·exact .inl h
    ·exact .inr ⟨c, b5 c k1, k2⟩
   ·simp only [not_or, Nat.not_le] at bX
    have eN := hb.resolve_left af
    refine .inr ⟨b, eN, bX.1, ?_, C.alive b bX.1 ⟨_, hk⟩⟩
    rcases hg with hg | hg
    ·exact .inl (C.lv b g hg bX.1)
    ·rw [C.cT b bX.1 bX.2] at hg; exact .inr hg
  ·have := h1 b hb
   rw [Bool.and_eq_true] at this
   refine C.alive b hl ?_
   have h3 := this.2
   split at h3
   ·rename_i blk hb; exact ⟨blk, hb⟩
   ·cases h3
  ·rcases C.ei k hk with h | h | ⟨c, k1, k2⟩
   ·exact .inl h
   ·exact .inr (.inl h)
   ·exact .inr (.inr ⟨c, b5 c k1, k2⟩)
def gc (P : Program) (m : Nat) (ids seals : List Nat) (v : V) (s : St) : aj := ⟨V.can (frz P s.hp ids m 100 v), (sealAll m seals (fe P m [] ids s)).hp, (sealAll m seals (fe P m [] ids s)).wr⟩
theorem Ms {m : Nat} : ∀ (bs : List Nat) (s : St), (sealAll m bs s).wr = s.wr
 | [], s => rfl
 | b :: bs, s => by
  unfold sealAll
  rw [Ms bs]
  unfold sealSt
  split
  ·split <;> rfl
  ·rfl
theorem CI.jl {aZ : Hp} {I0 Ir : Nat -> Prop} {μ0 μr : Mu} {w0 w : World} {s' : St} {a : Act} (C' : CI P aZ I0 μ0 w0 s' a w Ir μr) :
  ∃ μ2, df μr μ2 /\ Good P I0 Ir μ0 μ2 w0 w aZ s'.hp (List.range aZ.length) s'.wr := by
 let μ2 : Mu := ⟨μr.nm, fun b => if b < s'.hp.length then μr.ft b else μ0.ft b⟩
 have hle : df μr μ2 := fun _ _ h => h
 have iE : ∀ b, b < s'.hp.length -> μ2.ft b = μr.ft b := fun b h => by simp [μ2, h]
 have bO : ∀ b blk, s'.hp[b]? = some (some blk) -> b < s'.hp.length := fun b blk h => (List.getElem?_eq_some_iff.1 h).1
 have fo : ∀ b g, b < s'.hp.length -> μ2.own b g -> μr.own b g := fun b g h hg => by
  rcases hg with hg | hg
  ·exact .inl hg
  ·rw [iE b h] at hg; exact .inr hg
 have hlen : aZ.length <= s'.hp.length := C'.len
 refine ⟨μ2, hle, ⟨C'.dq, fun k hk => ?_, C'.cr.mono fun k ⟨b, hb, _, hg⟩ => ⟨b, hb, hg⟩, fun b g h => C'.le b g h, fun b g hg => ?_, fun b hb hn => ?_, fun b _ blk h => ?_, fun b hb blk h g hg => ?_, fun b c b1 b2 g bp _ _ h1 h2 g1 g2 => C'.inj b c b1 b2 g bp h1 h2 (fo b g (bO b b1 h1) g1) (fo c g (bO c b2 h2) g2)⟩⟩
 ·rcases C'.ei k hk with h | h | ⟨c, cf, bQ, bZ, bS⟩
  ·exact .inl h
  ·exact .inr (.inl ⟨h, C'.dj k hk⟩)
  ·exact .inr (.inr ⟨c, cf, bZ, bS⟩)
 ·by_cases hb : b < aZ.length
  ·exact .inl (C'.lv b g hg hb)
  ·exact .inr ⟨af, C'.cz b g hg⟩
 ·by_cases hl : b < s'.hp.length
  ·rw [iE b hl]
   exact C'.cT b af hb
  ·simp [μ2, hl]
 ·exact (C'.holds b blk h).keep (.refl w (fun _ => False)) (.refl _) hle (fun h => h) (iE b (bO b blk h)) (fun _ _ h => h) (fun g hg => (C'.holds b blk h).ku hg)
 ·rcases C'.dI b hb blk h g (fo b g (bO b blk h) hg) with h | ⟨c, cf, bQ, bZ, bS⟩
  ·exact .inl h
  ·exact .inr ⟨c, cf, bZ, bS⟩
theorem Q0 {aZ : Hp} {I0 Im : Nat -> Prop} {μ0 μ : Mu} {w0 w : World} {s : St} {a : Act} {v : V} {val : Value} {ids seals : List Nat} (hp : ib aZ.length ids = true) (C : CI P aZ I0 μ0 w0 s a w Im μ) (hv : V.R P Im μ w v val) :
  ∃ μr Ir, V.R P Ir μr w (gc P aZ.length ids seals v s).v val /\ Good P I0 Ir μ0 μr w0 w aZ (gc P aZ.length ids seals v s).hp (List.range aZ.length) (gc P aZ.length ids seals v s).wr := by
 obtain ⟨Ir, μr, C1, hV⟩ := (re (keep := []) hp).run rfl C
 obtain ⟨μ2, hle, G⟩ := ((zS (P := P) seals (fe P aZ.length [] ids s)).run rfl C1).jl
 exact ⟨μ2, Ir, (Bh _ _ (hV _ _ hv)).keep (.refl w (fun _ => False)) (.refl _) hle, G⟩
theorem Q1 {aZ : Hp} {s : St} {v : V} {ids seals : List Nat} (hp : ib aZ.length ids = true) (C : SR aZ s) : xM aZ (gc P aZ.length ids seals v s) := by
 have C' := (zS (P := P) seals (fe P aZ.length [] ids s)).st aZ rfl ((re (P := P) (keep := []) hp).st aZ rfl C)
 exact ⟨C'.len, fun b hb hn => C'.frame b hb hn, fun b hb => by simp only [gc, Ms, fe, List.mem_eraseDups, List.mem_filter, decide_eq_true_eq] at hb; exact hb.2, C'.alive⟩
end
structure eK (P : Program) (hp bm : Hp) (bs : List Nat) : Prop where
 tidy : Tidy hp bm bs bs
 run : ∀ {I : Nat -> Prop} {μ : Mu} {w : World} {acc : List Nat}, cK P I μ w hp acc bm.length -> (∀ b ∈ bs, b ∈ acc) -> ∃ μ1, Good P I I μ μ1 w w hp bm acc bs
section
variable {P : Program} {hp bm dw : Hp} {bs Bw Bx : List Nat}
theorem Good.back {I I' : Nat -> Prop} {μ μ1 : Mu} {w w1 : World} {acc wr : List Nat} (G : Good P I I' μ μ1 w w1 hp bm acc wr) (ga : ∀ b ∈ wr, b < hp.length) (ht : ∀ b, b < hp.length -> b ∉ wr -> bm[b]? = hp[b]?) {c : Nat} {blk : bM} (hc : bm[c]? = some (some blk)) {g : Nat} (hg : μ1.own c g) :
  w.heap.size <= g \/ ∃ d, (d ∈ wr \/ d = c) /\ d < hp.length /\ μ.own d g /\ ∃ blk, hp[d]? = some (some blk) := by
 by_cases h : hp.length <= c \/ c ∈ wr
 ·rcases G.dI c h blk hc g hg with h | ⟨d, h1, h2, h3⟩
  ·exact .inl h
  ·exact .inr ⟨d, .inl h1, ga d h1, h2, h3⟩
 ·simp only [not_or, Nat.not_le] at h
  refine .inr ⟨c, .inr rfl, h.1, ?_, blk, by rw [<- ht c h.1 h.2]; exact hc⟩
  rcases hg with hg | hg
  ·rcases G.cz c g hg with h' | ⟨h', _⟩
   ·exact .inl h'
   ·omega
  ·rw [G.cT c h.2 af] at hg; exact .inr hg
def kt (hp : Hp) (l : List Nat) : List Nat := l.filter fun b => decide (b < hp.length)
theorem fb {b : Nat} {l : List Nat} : b ∈ kt hp l ↔ b ∈ l /\ b < hp.length := by simp [kt]
theorem Tidy.comp {kg dR : List Nat} (h : Tidy hp bm bs bs) (k : Tidy bm dw kg dR) : Tidy hp dw (kt hp (bs ++ kg)) (kt hp (bs ++ dR)) := by
 refine ⟨Nat.le_trans h.len k.len, fun b hb hn => ?_, fun b hb => ?_, fun b hb => (fb.1 hb).2, fun b hb => ?_⟩
 ·have h1 : b ∉ bs := fun h1 => hn (fb.2 ⟨by simp [h1], hb⟩)
  have h2 : b ∉ dR := fun h1 => hn (fb.2 ⟨by simp [h1], hb⟩)
  rw [k.frame b (Nat.lt_of_lt_of_le hb h.len) h2, h.frame b hb h1]
 ·obtain ⟨h1, h2⟩ := fb.1 hb
  refine fb.2 ⟨?_, h2⟩
  rcases List.mem_append.1 h1 with h1 | h1
  ·exact List.mem_append.2 (.inl h1)
  ·exact List.mem_append.2 (.inr (k.j8 b h1))
 ·obtain ⟨h1, h2⟩ := fb.1 hb
  by_cases h3 : b ∈ bs
  ·exact h.j7 b h3
  ·rcases List.mem_append.1 h1 with h1 | h1
   ·exact absurd h1 h3
   ·obtain ⟨blk, bu⟩ := k.j7 b h1
    exact ⟨blk, by rw [<- h.frame b h2 h3]; exact bu⟩
theorem Good.comp {I I' : Nat -> Prop} {μ μ1 μ2 : Mu} {w w2 : World} {acc kg Bm dR : List Nat} {top : Nat} (t1 : Tidy hp bm bs bs) (pre : cK P I μ w hp acc top) (G1 : Good P I I μ μ1 w w hp bm acc bs) (t2 : Tidy bm dw Bm dR) (lM : ∀ b ∈ dR, b ∈ kg)
  (ha : ∀ b, b < hp.length -> b ∈ acc -> b ∈ kg \/ ∀ blk, bm[b]? ≠ some (some blk)) (hn : ∀ b, hp.length <= b -> b < bm.length -> b ∈ kg) (hb : ∀ b ∈ bs, b ∈ acc) (Tj : ∀ b ∈ dR, b < hp.length -> b ∈ acc)
  (G2 : Good P I I' μ1 μ2 w w2 bm dw kg dR) : Good P I I' μ μ2 w w2 hp dw acc (kt hp (bs ++ dR)) := by
 have hh : ∀ b, (b ∈ acc \/ hp.length <= b) -> ∀ blk, bm[b]? = some (some blk) -> b ∈ kg \/ bm.length <= b := by
  intro b h blk bu
  have hl := (List.getElem?_eq_some_iff.1 bu).1
  rcases Nat.lt_or_ge b hp.length with h1 | h1
  ·rcases h with h | h
   ·rcases ha b h1 h with h2 | h2
    ·exact .inl h2
    ·exact absurd bu (h2 blk)
   ·omega
  ·exact .inl (hn b h1 hl)
 have back : ∀ c, c ∈ dR -> ∀ g, μ1.own c g -> (∃ blk, bm[c]? = some (some blk)) -> ∃ d ∈ kt hp (bs ++ dR), μ.own d g /\ ∃ blk, hp[d]? = some (some blk) := by
  rintro c hc g hg ⟨blk, bu⟩
  have bO : g < w.heap.size := by
   have dv : c ∈ acc \/ hp.length <= c := by
    rcases Nat.lt_or_ge c hp.length with h | h
    ·exact .inl (Tj c hc h)
    ·exact .inr h
   exact (G1.holds c dv blk bu).lt hg
  rcases G1.back (fun b bX => t1.iu b bX) t1.frame bu hg with h | ⟨d, h1, h2, h3, h4⟩
  ·omega
  ·refine ⟨d, fb.2 ⟨?_, h2⟩, h3, h4⟩
   rcases h1 with h1 | rfl
   ·simp [h1]
   ·simp [hc]
 have dead : ∀ b, b < bm.length -> b ∉ dR -> ∀ blk, dw[b]? = some (some blk) -> bm[b]? = some (some blk) := by
  intro b h1 h2 blk h3; rw [<- t2.frame b h1 h2]; exact h3
 have CV : ∀ b, (b ∈ acc \/ hp.length <= b) -> ∀ blk, dw[b]? = some (some blk) -> b ∈ kg \/ bm.length <= b := by
  intro b h blk bu
  rcases Nat.lt_or_ge b bm.length with h1 | h1
  ·by_cases h2 : b ∈ dR
   ·exact .inl (lM b h2)
   ·exact hh b h blk (dead b h1 h2 blk bu)
  ·exact .inr h1
 refine ⟨G2.dq, fun k hk => ?_, ?_, G1.le.trans G2.le, fun b g h => ?_, fun b h1 h2 => ?_, fun b h blk bu => G2.holds b (CV b h blk bu) blk bu, fun b h blk bu g hg => ?_, fun b c b1 b2 g bp h1 h2 h3 h4 => G2.inj b c b1 b2 g bp (CV b h1 b1 h3) (CV c h2 b2 h4) h3 h4⟩
 ·rcases G2.ei k hk with h | h | ⟨c, h1, h2, h3⟩
  ·exact .inl h
  ·exact .inr (.inl h)
  ·exact .inr (.inr (back c h1 k h2 h3))
 ·refine G2.cr.mono fun k ⟨c, h1, h2⟩ => ?_
  obtain ⟨d, h3, h4, _⟩ := back c h1 k h2 (t2.j7 c h1)
  exact ⟨d, h3, h4⟩
 ·rcases G2.cz b g h with h | ⟨h1, h2⟩
  ·rcases G1.cz b g h with h | ⟨h1, h2⟩
   ·exact .inl h
   ·exact .inr ⟨h1, Nat.lt_of_lt_of_le h2 t2.len⟩
  ·exact .inr ⟨Nat.le_trans t1.len h1, h2⟩
 ·have h3 : b ∉ dR := by
   intro h3
   rcases Nat.lt_or_ge b hp.length with h4 | h4
   ·exact h1 (fb.2 ⟨by simp [h3], h4⟩)
   ·exact h2 ⟨h4, Nat.lt_of_lt_of_le (t2.iu b (t2.j8 b h3)) t2.len⟩
  have h4 : b ∉ bs := fun h4 => h1 (fb.2 ⟨by simp [h4], t1.iu b h4⟩)
  rw [G2.cT b h3 (fun h => h2 ⟨Nat.le_trans t1.len h.1, h.2⟩), G1.cT b h4 (fun h => h2 ⟨h.1, Nat.lt_of_lt_of_le h.2 t2.len⟩)]
 ·by_cases h1 : bm.length <= b \/ b ∈ dR
  ·rcases G2.dI b h1 blk bu g hg with h | ⟨c, h2, h3, h4⟩
   ·exact .inl h
   ·exact .inr (back c h2 g h3 h4)
  ·simp only [not_or, Nat.not_le] at h1
   have Rx := dead b h1.1 h1.2 blk bu
   have tk : μ1.own b g := by
    rcases hg with hg | hg
    ·rcases G2.cz b g hg with h | ⟨h, _⟩
     ·exact .inl h
     ·omega
    ·rw [G2.cT b h1.2 af] at hg; exact .inr hg
   have bX : hp.length <= b \/ b ∈ bs := by
    rcases h with h | h
    ·exact .inl h
    ·rcases List.mem_append.1 (fb.1 h).1 with h | h
     ·exact .inr h
     ·exact absurd h h1.2
   rcases G1.dI b bX blk Rx g tk with h | ⟨c, h2, h3, h4⟩
   ·exact .inl h
   ·exact .inr ⟨c, fb.2 ⟨by simp [h2], t1.iu c h2⟩, h3, h4⟩
theorem cK.after {I : Nat -> Prop} {μ μ1 : Mu} {w : World} {acc kg : List Nat} {top : Nat} (pre : cK P I μ w hp acc top) (t1 : Tidy hp bm bs bs) (G : Good P I I μ μ1 w w hp bm acc bs) (ha : ∀ b ∈ kg, b < hp.length -> b ∈ acc) : cK P I μ1 w bm kg top := by
 have hh : ∀ b ∈ kg, b ∈ acc \/ hp.length <= b := by
  intro b hb
  rcases Nat.lt_or_ge b hp.length with h | h
  ·exact .inl (ha b hb h)
  ·exact .inr h
 refine ⟨pre.dj, fun b hb blk bu => G.holds b (hh b hb) blk bu, fun b hb c hc b1 b2 g bp h1 h2 g1 g2 => G.inj b c b1 b2 g bp (hh b hb) (hh c hc) h1 h2 g1 g2, fun b h1 h2 => ?_⟩
 cases h : μ1 b with
 | none => rfl
 | some g =>
  rcases G.cz b g h with h | ⟨_, h3⟩
  ·rw [pre.fresh b (Nat.le_trans t1.len h1) h2] at h; cases h
  ·omega
theorem Good.frame {I I' : Nat -> Prop} {μ μ' : Mu} {w w' : World} {acc acc' Bm wr : List Nat} {top : Nat} (pre : cK P I μ w hp acc' top) (b5 : ∀ b ∈ acc, b ∈ acc') (t : Tidy hp bm Bm wr) (hw : ∀ b ∈ wr, b ∈ acc) (G : Good P I I' μ μ' w w' hp bm acc wr) : Good P I I' μ μ' w w' hp bm acc' wr := by
 have bO : ∀ b ∈ wr, b < hp.length := fun b hb => by
  obtain ⟨blk, h⟩ := t.j7 b hb
  exact (List.getElem?_eq_some_iff.1 h).1
 have eo : ∀ b, b ∈ acc' -> ¬ (b ∈ acc \/ hp.length <= b) -> ∀ blk, bm[b]? = some (some blk) -> hp[b]? = some (some blk) /\ (∀ g, μ'.own b g -> μ.own b g) := by
  intro b hb hn blk bu
  simp only [not_or, Nat.not_le] at hn
  have eZ : b ∉ wr := fun h => hn.1 (hw b h)
  refine ⟨by rw [<- t.frame b hn.2 eZ]; exact bu, fun g hg => ?_⟩
  rcases hg with hg | hg
  ·rcases G.cz b g hg with h | ⟨h, _⟩
   ·exact .inl h
   ·omega
  ·rw [G.cT b eZ af] at hg; exact .inr hg
 have other : ∀ b c blk bG g, b ∈ acc' -> ¬ (b ∈ acc \/ hp.length <= b) -> (c ∈ acc \/ hp.length <= c) -> bm[b]? = some (some blk) -> bm[c]? = some (some bG) -> μ'.own b g -> μ'.own c g -> False := by
  intro b c blk bG g hb hn hc h1 h2 g1 g2
  obtain ⟨iy, fo⟩ := eo b hb hn blk h1
  have g1' := fo g g1
  have mB := (pre.holds b hb blk iy).lt g1'
  simp only [not_or, Nat.not_le] at hn
  rcases G.back bO t.frame h2 g2 with h | ⟨d, h3, h4, h5, eL, h6⟩
  ·omega
  ·have hd : d ∈ acc := by
    rcases h3 with h3 | rfl
    ·exact hw d h3
    ·rcases hc with hc | hc
     ·exact hc
     ·omega
   exact pre.inj b hb d (b5 d hd) _ _ g (by rintro rfl; exact hn.1 hd) iy h6 g1' h5
 refine ⟨G.dq, G.ei, G.cr, G.le, G.cz, G.cT, fun b hb blk bu => ?_, fun b hb => G.dI b hb, fun b c b1 b2 g bp hb hc h1 h2 g1 g2 => ?_⟩
 ·by_cases hn : b ∈ acc \/ hp.length <= b
  ·exact G.holds b hn blk bu
  ·have bX : b ∈ acc' := by rcases hb with h | h; exact h; exact absurd (.inr h) hn
   obtain ⟨h1, fo⟩ := eo b bX hn blk bu
   simp only [not_or, Nat.not_le] at hn
   have eZ : b ∉ wr := fun h => hn.1 (hw b h)
   refine (pre.holds b bX blk h1).keep G.cr G.dq G.le (fun h0 => ?_) (G.cT b eZ af) (fun g hg hx => ?_) (fun g hg hi => ?_)
   ·cases hm : μ' b with
    | none => rfl
    | some g =>
     rcases G.cz b g hm with h | ⟨h, _⟩
     ·rw [h] at h0; cases h0
     ·omega
   ·obtain ⟨c, cf, bZ⟩ := hx
    obtain ⟨bG, cF⟩ := t.j7 c cf
    exact pre.inj b bX c (b5 c (hw c cf)) _ _ g (by rintro rfl; exact eZ cf) h1 cF hg bZ
   ·rcases G.ei g hi with h | ⟨h, _⟩ | ⟨c, cf, bZ, bG, cF⟩
    ·exact (pre.holds b bX blk h1).ku hg h
    ·have := (pre.holds b bX blk h1).lt hg; omega
    ·exact pre.inj b bX c (b5 c (hw c cf)) _ _ g (by rintro rfl; exact eZ cf) h1 cF hg bZ
 ·by_cases vG : b ∈ acc \/ hp.length <= b
  ·by_cases nA : c ∈ acc \/ hp.length <= c
   ·exact G.inj b c b1 b2 g bp vG nA h1 h2 g1 g2
   ·have cF : c ∈ acc' := by rcases hc with h | h; exact h; exact absurd (.inr h) nA
    exact other c b b2 b1 g cF nA vG h2 h1 g2 g1
  ·have bX : b ∈ acc' := by rcases hb with h | h; exact h; exact absurd (.inr h) vG
   by_cases nA : c ∈ acc \/ hp.length <= c
   ·exact other b c b1 b2 g bX vG nA h1 h2 g1 g2
   ·have cF : c ∈ acc' := by rcases hc with h | h; exact h; exact absurd (.inr h) nA
    obtain ⟨iy, o1⟩ := eo b bX vG b1 h1
    obtain ⟨iV, o2⟩ := eo c cF nA b2 h2
    exact pre.inj b bX c cF _ _ g bp iy iV (o1 g g1) (o2 g g2)
theorem cK.top {I : Nat -> Prop} {μ : Mu} {w : World} {acc : List Nat} {top top' : Nat} (pre : cK P I μ w hp acc top) (h : top' <= top) : cK P I μ w hp acc top' := ⟨pre.dj, pre.holds, pre.inj, fun b h1 h2 => pre.fresh b h1 (Nat.lt_of_lt_of_le h2 h)⟩
def su (hp bm : Hp) (acc : List Nat) : List Nat := acc ++ List.range' hp.length (bm.length - hp.length)
theorem px {acc : List Nat} {b : Nat} : b ∈ su hp bm acc ↔ b ∈ acc \/ (hp.length <= b /\ b < bm.length) := by
 unfold su
 rw [List.mem_append, List.mem_range'_1]
 constructor
 ·rintro (h | h)
  ·exact .inl h
  ·exact .inr ⟨h.1, af⟩
 ·rintro (h | h)
  ·exact .inl h
  ·exact .inr ⟨h.1, af⟩
theorem eK.trans (h : eK P hp bm Bw) (k : eK P bm dw Bx) : eK P hp dw (kt hp (Bw ++ Bx)) := by
 refine ⟨h.tidy.comp k.tidy, fun {I μ w acc} pre hb => ?_⟩
 have dW : ∀ b ∈ Bw, b ∈ acc := fun b dW => hb b (fb.2 ⟨by simp [dW], h.tidy.iu b dW⟩)
 obtain ⟨μ1, G1⟩ := h.run (pre.top k.tidy.len) dW
 have gU : ∀ b ∈ Bx, b ∈ su hp bm acc := by
  intro b gU
  rw [px]
  rcases Nat.lt_or_ge b hp.length with h1 | h1
  ·exact .inl (hb b (fb.2 ⟨by simp [gU], h1⟩))
  ·exact .inr ⟨h1, k.tidy.iu b gU⟩
 have kx : cK P I μ1 w bm (su hp bm acc) dw.length := pre.after h.tidy G1 fun b hb h1 => by
  rcases px.1 hb with h2 | h2
  ·exact h2
  ·omega
 obtain ⟨μ2, G2⟩ := k.run kx gU
 exact ⟨μ2, Good.comp h.tidy pre G1 k.tidy gU (fun b h1 h2 => .inl (px.2 (.inl h2))) (fun b h1 h2 => px.2 (.inr ⟨h1, h2⟩)) dW (fun b h1 h2 => hb b (fb.2 ⟨by simp [h1], h2⟩)) G2⟩
theorem fH.Lr {e : Operand -> V} {op : Op} {out : Out} (h : eK P hp bm bs) (k : fH P e bm op out) : fH P e hp op ⟨out.v, out.hp, kt hp (bs ++ out.acc), kt hp (bs ++ out.wr)⟩ := by
 refine ⟨h.tidy.comp k.tidy, fun {I μ w oper a K Q} ho bR pre hK => ?_⟩
 have dW : ∀ b ∈ bs, b ∈ kt hp (bs ++ out.acc) := fun b dW => fb.2 ⟨by simp [dW], h.tidy.iu b dW⟩
 obtain ⟨μ1, G1⟩ := h.run (pre.top k.tidy.len) dW
 have kx : cK P I μ1 w bm (su hp bm (kt hp (bs ++ out.acc))) out.hp.length := pre.after h.tidy G1 fun b hb h1 => by
  rcases px.1 hb with h2 | h2
  ·exact h2
  ·omega
 have jm : ∀ b ∈ out.acc, b ∈ su hp bm (kt hp (bs ++ out.acc)) := by
  intro b hb
  rw [px]
  rcases Nat.lt_or_ge b hp.length with h1 | h1
  ·exact .inl (fb.2 ⟨by simp [hb], h1⟩)
  ·exact .inr ⟨h1, k.tidy.iu b hb⟩
 have YE : cK P I μ1 w bm out.acc out.hp.length := ⟨kx.dj, fun b hb => kx.holds b (jm b hb), fun b hb c hc => kx.inj b (jm b hb) c (jm c hc), kx.fresh⟩
 refine k.wp ho (fun x hx => (bR x hx).keep (.refl w (fun _ => False)) (.refl I) G1.le) YE fun val w' μ' I' hR G2 => hK val w' μ' I' hR ?_
 have NT := G2.frame kx jm k.tidy k.tidy.j8
 exact Good.comp h.tidy pre G1 k.tidy (fun b hb => jm b (k.tidy.j8 b hb)) (fun b h1 h2 => .inl (px.2 (.inl h2))) (fun b h1 h2 => px.2 (.inr ⟨h1, h2⟩)) dW (fun b h1 h2 => fb.2 ⟨by simp [k.tidy.j8 b h1], h2⟩) NT
theorem eK.of (t : Tidy hp bm bs bs) (h : ∀ {I : Nat -> Prop} {μ : Mu} {w : World}, cK P I μ w hp bs bm.length -> ∃ μ1, Good P I I μ μ1 w w hp bm bs bs) : eK P hp bm bs := by
 refine ⟨t, fun {I μ w acc} pre hb => ?_⟩
 obtain ⟨μ1, G⟩ := h ⟨pre.dj, fun b bX => pre.holds b (hb b bX), fun b h1 c h2 => pre.inj b (hb b h1) c (hb c h2), pre.fresh⟩
 exact ⟨μ1, G.frame pre hb t t.j8⟩
theorem wa {b : Nat} {blk : bM} (hb : hp[b]? = some (some blk)) (x : Option bM) (news : Hp) : Tidy hp (hp.set b x ++ news) [b] [b] := by
 have hl := (List.getElem?_eq_some_iff.1 hb).1
 refine ⟨by simp, fun c hc hn => ?_, by simp, by simpa using hl, fun c hc => ⟨blk, by rw [List.mem_singleton] at hc; rw [hc]; exact hb⟩⟩
 have bp : ¬ b = c := fun e => hn (by simp [e])
 rw [List.getElem?_append_left (by simpa using hc), List.getElem?_set, if_neg bp]
theorem v7 {b : Nat} {l l' : List V} {T : TypeId} (hb : hp[b]? = some (some (l, T))) (hm : dQ T = true \/ ∀ c, l = [.aJ c] -> l' = [.aJ c]) (hlen : (flat l').length = (flat l).length)
  (jP : ∀ {I : Nat -> Prop} {μ : Mu} {w : World} {F : List Nat} {vs : List Value}, CR P I μ w F l vs -> ∃ F', F'.Sublist F /\ CR P I μ w F' l' vs) : eK P hp (hp.set b (some (l', T))) [b] := by
 have t := wa hb (some (l', T)) []
 rw [List.append_nil] at t
 refine .of t fun {I μ w} pre => ?_
 have hH := pre.holds b (by simp) _ hb
 have zb : l' = l -> ∃ μ1, Good P I I μ μ1 w w hp (hp.set b (some (l', T))) [b] [b] := by
  rintro rfl
  have e : hp.set b (some (l', T)) = hp := by
   apply List.ext_getElem?
   intro j
   rw [List.getElem?_set]
   split
   ·rename_i e
    subst e
    rw [hb, if_pos (List.getElem?_eq_some_iff.1 hb).1]
   ·rfl
  rw [e]
  have G := Good.same hp (pre.top (by simp))
  refine ⟨μ, G.dq, fun k hk => .inl hk, .refl _ _, .refl _, fun _ _ h => .inl h, fun _ _ _ => rfl, G.holds, fun c hc blk h g hg => ?_, G.inj⟩
  rcases hc with hc | hc
  ·rw [List.getElem?_eq_none hc] at h; cases h
  ·exact .inr ⟨c, hc, hg, _, h⟩
 rcases hH with ⟨g, cs, fr, h1, h2, h3, h4, ⟨h5, h6⟩, h7, h8⟩ | ⟨h1, h2⟩ | ⟨g, es, ck, c, h1, h2, h3, he, h4, h5⟩
 rotate_right
 ·cases he
  rcases hm with hm | hm
  ·simp [dQ, kV] at hm
  ·exact zb (hm _ rfl)
 ·obtain ⟨F', hF, hc⟩ := jP h6
  have G := Good.rY (bG := (l', T)) (cs := cs) (pre.top (by simp)) (by simp) hb h1 h3 rfl rfl h4 hF ⟨by simp only; rw [hlen]; exact h5, by simp only; rw [hlen]; exact hc⟩
  rw [setRow_self w g cs T fr h3] at G
  exact ⟨_, G⟩
 ·refine ⟨μ, .refl _, fun _ h => .inl h, .refl _ _, .refl _, fun _ _ h => .inl h, fun _ _ _ => rfl, fun c hc blk bu => ?_, fun c hc blk bu g hg => ?_, fun c d b1 b2 g bp hc hd e1 e2 g1 g2 => ?_⟩
  ·rcases tY bu with ⟨rfl, rfl⟩ | ⟨ee, h⟩
   ·exact .inr (.inl ⟨h1, h2⟩)
   ·rcases hc with hc | hc
    ·exact absurd (by simpa using hc) ee
    ·rw [List.getElem?_eq_none hc] at h; cases h
  ·have ee : c = b := by
    rcases hc with hc | hc
    ·have := (List.getElem?_eq_some_iff.1 bu).1; simp at this; omega
    ·simpa using hc
   subst ee
   rcases hg with hg | hg
   ·rw [h1] at hg; cases hg
   ·rw [h2] at hg; cases hg
  ·have key : ∀ (c : Nat) (b1 : bM), (c ∈ [b] \/ hp.length <= c) -> (hp.set b (some (l', T)))[c]? = some (some b1) -> c = b := by
    intro c b1 hc e1
    rcases hc with hc | hc
    ·simpa using hc
    ·have := (List.getElem?_eq_some_iff.1 e1).1; simp at this; omega
   exact bp ((key c b1 hc e1).trans (key d b2 hd e2).symm)
theorem YI {b : Nat} {pr po cs : List V} {T E : TypeId} {n : Nat} {o : Bool} (hb : hp[b]? = some (some (pr ++ .osl E n o cs :: po, T))) :
  eK P hp (hp.set b (some (pr ++ .sl hp.length 0 n false :: po, T)) ++ [some ([mkS o cs], E)]) [b] := by
 have bI := (List.getElem?_eq_some_iff.1 hb).1
 refine .of (wa hb _ _) fun {I μ w} pre => ?_
 have hH := pre.holds b (by simp) _ hb
 have jo : μ hp.length = none := pre.fresh _ (Nat.le_refl _) (by simp)
 have aL : ∀ c blk, (hp.set b (some (pr ++ .sl hp.length 0 n false :: po, T)) ++ [some ([mkS o cs], E)])[c]? = some (some blk) -> (c ∈ [b] \/ hp.length <= c) -> (c = b /\ blk = (pr ++ .sl hp.length 0 n false :: po, T)) \/ (c = hp.length /\ blk = ([mkS o cs], E)) := by
  intro c blk h hc
  rcases kJ h with ⟨h1, h⟩ | ⟨h1, h⟩
  ·simp only [List.length_set] at h1
   have ee : c = b := by
    rcases hc with hc | hc
    ·simpa using hc
    ·omega
   rcases tY h with ⟨_, h⟩ | ⟨h2, _⟩
   ·exact .inl ⟨ee, h⟩
   ·exact absurd ee h2
  ·simp only [List.length_set] at h1
   exact .inr ⟨h1, h⟩
 have fin : ∀ μ1 : Mu, df μ μ1 -> (∀ c g, μ1 c = some g -> μ c = some g \/ c = hp.length) -> (∀ c, c ≠ b -> c ≠ hp.length -> μ1.ft c = μ.ft c) ->
   Holds P I μ1 w b (pr ++ .sl hp.length 0 n false :: po, T) -> Holds P I μ1 w hp.length ([mkS o cs], E) -> (∀ g, μ1.own b g -> μ.own b g) -> (∀ g, μ1.own hp.length g -> μ.own b g) -> (∀ g, μ1.own b g -> μ1.own hp.length g -> False) ->
   ∃ μ1, Good P I I μ μ1 w w hp (hp.set b (some (pr ++ .sl hp.length 0 n false :: po, T)) ++ [some ([mkS o cs], E)]) [b] [b] := by
  intro μ1 hle dO iE hB hN ob oN tj
  refine ⟨μ1, .refl _, fun _ h => .inl h, .refl _ _, hle, fun c g h => ?_, fun c hc hn => ?_, fun c hc blk bu => ?_, fun c hc blk bu g hg => ?_, fun c d b1 b2 g bp hc hd e1 e2 g1 g2 => ?_⟩
  ·rcases dO c g h with h | h
   ·exact .inl h
   ·right; simp; omega
  ·exact iE c (by simpa using hc) (fun e => hn ⟨af, by simp; omega⟩)
  ·rcases aL c blk bu hc with ⟨rfl, rfl⟩ | ⟨rfl, rfl⟩
   ·exact hB
   ·exact hN
  ·have cF : c ∈ [b] \/ hp.length <= c := hc.symm
   right
   refine ⟨b, by simp, ?_, _, hb⟩
   rcases aL c blk bu cF with ⟨rfl, rfl⟩ | ⟨rfl, rfl⟩
   ·exact ob g hg
   ·exact oN g hg
  ·rcases aL c b1 e1 hc with ⟨rfl, _⟩ | ⟨rfl, _⟩
   ·rcases aL d b2 e2 hd with ⟨rfl, _⟩ | ⟨rfl, _⟩
    ·exact bp rfl
    ·exact tj g g1 g2
   ·rcases aL d b2 e2 hd with ⟨rfl, _⟩ | ⟨rfl, _⟩
    ·exact tj g g2 g1
    ·exact bp rfl
 have km : b ≠ hp.length := af
 rcases hH with ⟨g, row, fr, h1, h2, h3, h4, ⟨h5, h6⟩, h7, h8⟩ | ⟨h1, h2⟩ | ⟨_, _, _, _, _, _, _, he, _⟩
 rotate_right
 ·have qL := congrArg Prod.fst he
  simp only at qL
  cases pr with
  | nil => cases qL
  | cons x pr => have := congrArg List.length qL; simp at this
 ·obtain ⟨F1, F2, us, us', gH, hF, k1, k2⟩ := CR.append_iff.1 h6
  obtain ⟨u, im, Fo, F3, rfl, rfl, k3, k4⟩ := (CR.eF rfl).1 k2
  have k5 : V.O P I w Fo (.osl E n o cs) u := k3
  have eg := h7
  rw [hF, List.nodup_cons] at eg
  obtain ⟨C9, eg⟩ := eg
  have hlen : (flat (pr ++ .sl hp.length 0 n false :: po)).length = (flat (pr ++ .osl E n o cs :: po)).length := by
   rw [fK, fK, eW rfl, eW rfl]; simp
  have b5 : (F1 ++ F3).Sublist (μ.ft b) := by
   rw [hF]; exact (List.Sublist.refl F1).append (List.sublist_append_right Fo F3)
  rcases sg.1 k5 with ⟨rfl, rfl, vH⟩ | ⟨g2, cap, i, cells, Cv, F', hu, rfl, q3, q4, q5, q6, q7, q8, q9, br⟩
  ·-- it has no room
   refine fin ((μ.dY b (F1 ++ F3)).dY hp.length []) (fun _ _ h => h) (fun _ _ h => .inl h) (fun c hc iW => by rw [Mu.jB _ _ iW, Mu.jB _ _ hc]) ?_ (.inr (.inl ⟨jo, by rw [Mu.fN]⟩)) ?_ ?_ ?_
   ·refine .inl ⟨g, row, fr, h1, h2, h3, h4, ⟨by rw [hlen]; exact h5, ?_⟩, ?_, ?_⟩
    ·rw [Mu.jB _ _ km, Mu.fN, hlen, gH]
     have hle : df μ ((μ.dY b (F1 ++ F3)).dY hp.length []) := fun _ _ h => h
     have hx : V.R P I ((μ.dY b (F1 ++ F3)).dY hp.length []) w (.sl hp.length 0 0 false) u := by
      simp only [V.R]
      exact .inr ⟨bn, bn, vH⟩
     have hc := CR.append_iff.2 ⟨F1, _, us, _, rfl, rfl, k1.keep (.refl w (fun _ => False)) (.refl I) hle (fun _ _ h => h), (CR.eF rfl).2 ⟨u, im, [], F3, rfl, rfl, sf hx, k4.keep (.refl w (fun _ => False)) (.refl I) hle (fun _ _ h => h)⟩⟩
     rwa [List.nil_append] at hc
    ·rw [Mu.jB _ _ km, Mu.fN, List.nodup_cons]
     exact ⟨fun h => C9 (by rw [<- hF]; exact b5.subset h), eg.sublist (by rw [<- hF]; exact b5)⟩
    ·intro k hk
     rw [Mu.jB _ _ km, Mu.fN] at hk
     exact h8 k (b5.subset hk)
   ·rintro k (hk | hk)
    ·exact .inl hk
    ·rw [Mu.jB _ _ km, Mu.fN] at hk; exact .inr (b5.subset hk)
   ·rintro k (hk | hk)
    ·have dD : μ hp.length = some k := hk
     rw [jo] at dD; cases dD
    ·rw [Mu.fN] at hk; cases hk
   ·rintro k _ (hk | hk)
    ·have dD : μ hp.length = some k := hk
     rw [jo] at dD; cases dD
    ·rw [Mu.fN] at hk; cases hk
  ·have nw : ∀ k, k ∈ g2 :: F' -> k ∈ μ.ft b := by
    intro k hk; rw [hF]; simp only [List.mem_append]; exact .inr (.inl hk)
   have hle : df μ ((μ.dY b (F1 ++ F3)).put hp.length g2 F') := (Mu.ru b _).trans (Mu.Er (by exact jo))
   have SA : ∀ k, k ∈ g2 :: F' -> k ∉ F1 ++ F3 := by
    intro k hk CX
    rw [List.nodup_append] at eg
    obtain ⟨n1, n2, n3⟩ := eg
    rw [List.nodup_append] at n2
    rcases List.mem_append.1 CX with h | h
    ·exact n3 k h k (List.mem_append.2 (.inl hk)) rfl
    ·exact n2.2.2 k hk k h rfl
   have Sy : (g2 :: F').Nodup := by
    rw [List.nodup_append] at eg
    have := eg.2.1
    rw [List.nodup_append] at this
    exact this.1
   have D0 : ((μ.dY b (F1 ++ F3)).put hp.length g2 F') b = some g := by rw [Mu.pD _ _ _ km]; exact h1
   have u6 : ((μ.dY b (F1 ++ F3)).put hp.length g2 F').ft b = F1 ++ F3 := by rw [Mu.rm _ _ _ km, Mu.fN]
   refine fin ((μ.dY b (F1 ++ F3)).put hp.length g2 F') hle (fun c k h => ?_) (fun c hc iW => by rw [Mu.rm _ _ _ iW, Mu.jB _ _ hc]) ?_ (.inl ⟨g2, cells, Cv, Mu.ky _ _ _ _, (h8 g2 (nw g2 (by simp))).1, q6, q7, ⟨by rw [oS]; exact q9, ?_⟩, ?_, ?_⟩) ?_ ?_ ?_
   ·by_cases hc : c = hp.length
    ·exact .inr hc
    ·rw [Mu.pD _ _ _ hc] at h; exact .inl h
   ·refine .inl ⟨g, row, fr, D0, h2, h3, h4, ⟨by rw [hlen]; exact h5, ?_⟩, ?_, ?_⟩
    ·rw [u6, hlen, gH]
     have hx : V.R P I ((μ.dY b (F1 ++ F3)).put hp.length g2 F') w (.sl hp.length 0 n false) u := by
      simp only [V.R]
      exact .inl ⟨g2, cap, E, cells.size, i, Mu.ky _ _ _ _, hu, q3, q4, by simp, mS q6, q5, af⟩
     have hc := CR.append_iff.2 ⟨F1, _, us, _, rfl, rfl, k1.keep (.refl w (fun _ => False)) (.refl I) hle (fun _ _ h => h), (CR.eF rfl).2 ⟨u, im, [], F3, rfl, rfl, sf hx, k4.keep (.refl w (fun _ => False)) (.refl I) hle (fun _ _ h => h)⟩⟩
     rwa [List.nil_append] at hc
    ·rw [u6, List.nodup_cons]
     exact ⟨fun h => C9 (by rw [<- hF]; exact b5.subset h), eg.sublist (by rw [<- hF]; exact b5)⟩
    ·intro k hk
     rw [u6] at hk
     exact h8 k (b5.subset hk)
   ·rw [Mu.mM, oS]; exact CR.rr br
   ·rw [Mu.mM]; exact Sy
   ·intro k hk
    rw [Mu.mM] at hk
    exact h8 k (nw k (by simp [hk]))
   ·rintro k (hk | hk)
    ·rw [D0] at hk; cases hk; exact .inl h1
    ·rw [u6] at hk; exact .inr (b5.subset hk)
   ·intro k hk
    exact .inr (nw k (by rcases Mu.ri _ hk with rfl | h; simp; simp [h]))
   ·intro k yO CX
    have IN : k ∈ g2 :: F' := by rcases Mu.ri _ CX with rfl | h; simp; simp [h]
    rcases yO with hk | hk
    ·rw [D0] at hk; cases hk
     exact C9 (by rw [<- hF]; exact nw g IN)
    ·rw [u6] at hk; exact SA k IN hk
 ·-- the block ak8 is Fy of a slice Fy is nil
  refine fin (μ.dY hp.length []) (fun _ _ h => h) (fun _ _ h => .inl h) (fun c hc iW => by rw [Mu.jB _ _ iW]) (.inr (.inl ⟨h1, by rw [Mu.jB _ _ km]; exact h2⟩)) (.inr (.inl ⟨jo, by rw [Mu.fN]⟩)) ?_ ?_ ?_
  ·rintro k (hk | hk)
   ·exact .inl hk
   ·rw [Mu.jB _ _ km] at hk; exact .inr hk
  ·rintro k (hk | hk)
   ·have dD : μ hp.length = some k := hk
    rw [jo] at dD; cases dD
   ·rw [Mu.fN] at hk; cases hk
  ·rintro k _ (hk | hk)
   ·have dD : μ hp.length = some k := hk
    rw [jo] at dD; cases dD
   ·rw [Mu.fN] at hk; cases hk
theorem YK {b c : Nat} {pr po l2 : List V} {T E : TypeId} {n : Nat} {f : Bool} (bp : b ≠ c) (hb : hp[b]? = some (some (pr ++ .sl c 0 n f :: po, T))) (hc : hp[c]? = some (some (l2, E))) (hr : V.refsL l2 = []) :
  eK P hp ((hp.set b (some (pr ++ .osl E n (hasO l2) (flat l2) :: po, T))).set c none) [b, c] := by
 have bI := (List.getElem?_eq_some_iff.1 hb).1
 have bQ := (List.getElem?_eq_some_iff.1 hc).1
 refine .of ⟨by simp, fun d hd hn => ?_, by simp, fun d hd => ?_, fun d hd => ?_⟩ fun {I μ w} pre => ?_
 ·simp only [List.mem_cons, List.not_mem_nil, or_false, not_or] at hn
  rw [List.getElem?_set, if_neg (fun e => hn.2 e.symm), List.getElem?_set, if_neg (fun e => hn.1 e.symm)]
 ·simp only [List.mem_cons, List.not_mem_nil, or_false] at hd
  rcases hd with rfl | rfl <;> assumption
 ·simp only [List.mem_cons, List.not_mem_nil, or_false] at hd
  rcases hd with rfl | rfl
  ·exact ⟨_, hb⟩
  ·exact ⟨_, hc⟩
 have hH := pre.holds b (by simp) _ hb
 have hC := pre.holds c (by simp) _ hc
 have aL : ∀ d blk, ((hp.set b (some (pr ++ .osl E n (hasO l2) (flat l2) :: po, T))).set c none)[d]? = some (some blk) -> (d ∈ [b, c] \/ hp.length <= d) -> d = b /\ blk = (pr ++ .osl E n (hasO l2) (flat l2) :: po, T) := by
  intro d blk h hd
  obtain ⟨h1, h⟩ := tZ h
  have oY : d = b := by
   rcases hd with hd | hd
   ·simp only [List.mem_cons, List.not_mem_nil, or_false] at hd
    exact hd.resolve_right h1
   ·have := (List.getElem?_eq_some_iff.1 h).1; simp at this; omega
  rcases tY h with ⟨_, h⟩ | ⟨h2, _⟩
  ·exact ⟨oY, h⟩
  ·exact absurd oY h2
 have fin : ∀ F : List Nat, Holds P I (μ.dY b F) w b (pr ++ .osl E n (hasO l2) (flat l2) :: po, T) -> (∀ g ∈ F, μ.own b g \/ μ.own c g) -> ∃ μ1, Good P I I μ μ1 w w hp ((hp.set b (some (pr ++ .osl E n (hasO l2) (flat l2) :: po, T))).set c none) [b, c] [b, c] := by
  intro F hB hF
  refine ⟨μ.dY b F, .refl _, fun _ h => .inl h, .refl _ _, Mu.ru b F, fun _ _ h => .inl h, fun d hd _ => Mu.jB _ _ (by rintro rfl; simp at hd), fun d hd blk bu => ?_, fun d hd blk bu g hg => ?_, fun d e b1 b2 g bp hd he e1 e2 g1 g2 => ?_⟩
  ·obtain ⟨rfl, rfl⟩ := aL d blk bu hd
   exact hB
  ·obtain ⟨rfl, rfl⟩ := aL d blk bu hd.symm
   right
   rcases hg with hg | hg
   ·exact ⟨d, by simp, .inl hg, _, hb⟩
   ·rw [Mu.fN] at hg
    rcases hF g hg with h | h
    ·exact ⟨d, by simp, h, _, hb⟩
    ·exact ⟨c, by simp, h, _, hc⟩
  ·exact bp ((aL d b1 e1 hd).1.trans (aL e b2 e2 he).1.symm)
 rcases hH with ⟨g, row, fr, h1, h2, h3, h4, ⟨h5, h6⟩, h7, h8⟩ | ⟨h1, h2⟩ | ⟨_, _, _, _, _, _, _, he, _⟩
 rotate_right
 ·have qL := congrArg Prod.fst he
  simp only at qL
  cases pr with
  | nil => cases qL
  | cons x pr => have := congrArg List.length qL; simp at this
 ·obtain ⟨F1, F2, us, us', gH, hF, k1, k2⟩ := CR.append_iff.1 h6
  obtain ⟨u, im, Fo, F3, rfl, rfl, k3, k4⟩ := (CR.eF rfl).1 k2
  obtain ⟨rfl, k5⟩ := k3.plain rfl
  rw [List.nil_append] at hF
  have hlen : (flat (pr ++ .osl E n (hasO l2) (flat l2) :: po)).length = (flat (pr ++ .sl c 0 n f :: po)).length := by
   rw [fK, fK, eW rfl, eW rfl]; simp
  have key : ∀ Fo : List Nat, V.O P I w Fo (.osl E n (hasO l2) (flat l2)) u -> (g :: (F1 ++ (Fo ++ F3))).Nodup -> (∀ k ∈ Fo, ¬ I k /\ k < w.heap.size /\ (μ.own b k \/ μ.own c k)) -> ∃ μ1, Good P I I μ μ1 w w hp ((hp.set b (some (pr ++ .osl E n (hasO l2) (flat l2) :: po, T))).set c none) [b, c] [b, c] := by
   intro Fo hO eg oV
   have hle : df μ (μ.dY b (F1 ++ (Fo ++ F3))) := Mu.ru b _
   refine fin (F1 ++ (Fo ++ F3)) (.inl ⟨g, row, fr, h1, h2, h3, h4, ⟨by rw [hlen]; exact h5, ?_⟩, by rw [Mu.fN]; exact eg, fun k hk => ?_⟩) fun k hk => ?_
   ·rw [Mu.fN, hlen, gH]
    exact CR.append_iff.2 ⟨F1, _, us, _, rfl, rfl, k1.keep (.refl w (fun _ => False)) (.refl I) hle (fun _ _ h => h), (CR.eF rfl).2 ⟨u, im, Fo, F3, rfl, rfl, xO hO, k4.keep (.refl w (fun _ => False)) (.refl I) hle (fun _ _ h => h)⟩⟩
   ·rw [Mu.fN] at hk
    rcases List.mem_append.1 hk with h | h
    ·exact h8 k (by rw [hF]; simp [h])
    ·rcases List.mem_append.1 h with h | h
     ·exact ⟨(oV k h).1, (oV k h).2.1⟩
     ·exact h8 k (by rw [hF]; simp [h])
   ·rcases List.mem_append.1 hk with h | h
    ·exact .inl (.inr (by rw [hF]; simp [h]))
    ·rcases List.mem_append.1 h with h | h
     ·exact (oV k h).2.2
     ·exact .inl (.inr (by rw [hF]; simp [h]))
  simp only [V.R] at k5
  rcases k5 with ⟨g2, cap, e, N, i, CU, rfl, q1, q2, _, q4, q5, q6⟩ | ⟨_, rfl, vH⟩
  ·obtain ⟨Zx, Cv, r1, r2, r3, ⟨r4, r5⟩, r6, r7⟩ := hC.kZ CU q4
   have c8 := mS r2
   rw [q4] at c8
   cases c8
   refine key (g2 :: μ.ft c) (sg.2 (.inr ⟨g2, cap, i, Zx, Cv, μ.ft c, rfl, rfl, q1, q2, q5, r2, r3, af, r4, r5.KF hr⟩)) ?_ fun k hk => ?_
   ·have tj : ∀ k, μ.own b k -> k ∈ g2 :: μ.ft c -> False := by
     intro k h1 h2
     refine pre.inj b (by simp) c (by simp) _ _ k bp hb hc h1 ?_
     rcases List.mem_cons.1 h2 with rfl | h2
     ·exact .inl CU
     ·exact .inr h2
    rw [List.nodup_cons, hF] at h7
    have vF := h7.2
    rw [List.nodup_append] at vF
    obtain ⟨n1, n3, V9⟩ := vF
    rw [List.nodup_cons]
    refine ⟨fun h => ?_, ?_⟩
    ·rcases List.mem_append.1 h with h | h
     ·exact h7.1 (by simp [h])
     ·rcases List.mem_append.1 h with h | h
      ·exact tj g (.inl h1) h
      ·exact h7.1 (by simp [h])
    ·rw [List.nodup_append]
     refine ⟨n1, ?_, fun a ha k hk e => ?_⟩
     ·rw [List.nodup_append]
      exact ⟨r6, n3, fun a ha k hk e => tj k (.inr (by rw [hF]; simp [hk])) (by rw [<- e]; exact ha)⟩
     ·subst e
      rcases List.mem_append.1 hk with h | h
      ·exact tj a (.inr (by rw [hF]; simp [ha])) h
      ·exact V9 a ha a h rfl
   ·rcases List.mem_cons.1 hk with rfl | hk
    ·exact ⟨r1, (Array.getElem?_eq_some_iff.1 r2).1, .inr (.inl CU)⟩
    ·exact ⟨(r7 k hk).1, (r7 k hk).2, .inr (.inr hk)⟩
  ·refine key [] (sg.2 (.inl ⟨rfl, rfl, vH⟩)) (by rw [List.nil_append, <- hF]; exact h7) (by simp)
 ·refine fin (μ.ft b) (.inr (.inl ⟨h1, by rw [Mu.fN]; exact h2⟩)) (fun k hk => .inl (.inr hk))
theorem YN {b : Nat} {l : List V} {T : TypeId} (hb : hp[b]? = some (some (l, T))) (hr : V.refsL l = []) (hT : dQ T = true) : eK P hp (hp.set b (some ([.cu (fV l)], T))) [b] :=
 v7 hb (.inl hT) (by rw [show V.cu (fV l) = mkS true (fV l) from rfl, oS, yx]) fun h => ⟨_, .refl _, CR.rr (o := true) (h.kM hr).nU⟩
theorem OS.pieces {I : Nat -> Prop} {μ : Mu} {w : World} {o : Bool} {F : List Nat} {v : List V} {vs : List Value} (h : OS P I w o F v vs) : CR P I μ w F v vs := by
 cases o
 ·obtain ⟨rfl, h⟩ := h; exact .of (xR h)
 ·have := Bc (μ := μ) h
  exact .vX (D2 this) this
theorem YO {b : Nat} {o : Bool} {c v : List V} {T : TypeId} {base es : Nat} (hb : hp[b]? = some (some ([mkS o c], T))) (hv : (c.drop base).take es = v) (hs : c7 v = false) (hl : base + es <= c.length) (hT : dQ T = true) :
  eK P hp (hp.set b (some ([mkS o (c.take base)] ++ v ++ [mkS o (c.drop (base + es))], T))) [b] := by
 refine v7 hb (.inl hT) ?_ fun {I μ w F vs} h => ?_
 ·rw [fK, fK, oS, oS, oS, iU hs, <- hv]
  simp only [List.length_append, List.length_take, List.length_drop]; omega
 ·obtain ⟨us, cD, F1, F2, rfl, rfl, h1, h2⟩ := CR.fM.1 h
  obtain ⟨rfl, rfl⟩ := CR.fp.1 h2
  obtain ⟨G1, G2, hG, k1, k2⟩ := h1.split base
  obtain ⟨G3, G4, Q9, k3, k4⟩ := k2.split es
  simp only [List.drop_drop] at k4
  rw [hv] at k3
  refine ⟨G1 ++ (G3 ++ G4), by rw [hG, Q9]; simp, ?_⟩
  have gH : us ++ [] = us.take base ++ ((us.drop base).take es ++ us.drop (base + es)) := by
   rw [<- List.drop_drop, List.take_append_drop, List.take_append_drop, List.append_nil]
  rw [gH, List.append_assoc]
  exact (CR.rr k1).append (k3.pieces.append (CR.rr k4))
def V.nilish : V -> Bool
 | .dsl 0 true _ => true
 | .lit (.slice none 0 0) => true
 | .sl _ _ 0 true => true
 | _ => false
theorem KB {I : Nat -> Prop} {μ : Mu} {w : World} {c : V} {u : Value} (h : c.nilish = true) (hR : V.R P I μ w c u) : uG u := by
 unfold V.nilish at h
 split at h
 ·simp only [V.R] at hR
  obtain ⟨a, cap, rfl, _, hf, ha, _⟩ := hR
  obtain rfl : cap = 0 := hf trivial
  exact ⟨a, rfl, ha.imp (fun h => h.1) id⟩
 ·simp only [V.R] at hR
  exact ⟨none, hR, .inl rfl⟩
 ·simp only [V.R] at hR
  rcases hR with ⟨g, cap, e, N, i, _, rfl, _, _, hf, _⟩ | ⟨_, _, h⟩
  ·obtain rfl : cap = 0 := hf trivial
   exact ⟨_, rfl, .inr ⟨_, _, rfl⟩⟩
  ·exact h
 ·cases h
theorem YH {b : Nat} {pr po : List V} {c : V} {T E : TypeId} (hc : c.nilish = true) (hb : hp[b]? = some (some (pr ++ c :: po, T))) : eK P hp (hp.set b (some (pr ++ .osl E 0 false [] :: po, T))) [b] := by
 have fL : c.seals = none := by unfold V.nilish at hc; split at hc <;> first | rfl | cases hc
 have qH : c.isO = false := by unfold V.nilish at hc; split at hc <;> first | rfl | cases hc
 refine v7 hb (.inr fun x e => ?_) ?_ fun {I μ w F vs} h => ?_
 ·cases pr with
  | nil => rw [List.nil_append] at e; cases e; cases fL
  | cons y pr => have := congrArg List.length e; simp at this
 ·rw [fK, fK, eW fL, eW rfl]; simp
 ·obtain ⟨F1, F2, us, us', rfl, rfl, k1, k2⟩ := CR.append_iff.1 h
  obtain ⟨u, im, Fo, F3, rfl, rfl, k3, k4⟩ := (CR.eF fL).1 k2
  obtain ⟨rfl, k5⟩ := k3.plain qH
  exact ⟨_, .refl _, CR.append_iff.2 ⟨F1, _, us, _, rfl, rfl, k1, (CR.eF rfl).2 ⟨u, im, [], F3, rfl, rfl, xO (sg.2 (.inl ⟨rfl, rfl, KB hc k5⟩)), k4⟩⟩⟩
theorem YM {b c : Nat} {pr po : List V} {off n : Nat} {f : Bool} {T : TypeId} (hb : hp[b]? = some (some (pr ++ .sl c off n f :: po, T))) : eK P hp (hp.set b (some (pr ++ .sl c off n false :: po, T))) [b] := by
 refine v7 hb (.inr fun x e => ?_) ?_ fun {I μ w F vs} h => ?_
 ·cases pr with
  | nil => cases e
  | cons y pr => have := congrArg List.length e; simp at this
 ·rw [fK, fK, eW rfl, eW rfl]; simp
 ·obtain ⟨F1, F2, us, us', rfl, rfl, k1, k2⟩ := CR.append_iff.1 h
  obtain ⟨u, im, Fo, F3, rfl, rfl, k3, k4⟩ := (CR.eF rfl).1 k2
  obtain ⟨rfl, k5⟩ := k3.plain rfl
  refine ⟨_, .refl _, CR.append_iff.2 ⟨F1, _, us, _, rfl, rfl, k1, (CR.eF rfl).2 ⟨u, im, [], F3, rfl, rfl, sf ?_, k4⟩⟩⟩
  simp only [V.R] at k5 ⊢
  rcases k5 with ⟨g, cap, e, N, i, q1, q2, q3, q4, _, q5⟩ | h
  ·exact .inl ⟨g, cap, e, N, i, q1, q2, q3, q4, by simp, q5⟩
  ·exact .inr h
end
section
variable {P : Program} {m : Nat} {s : St} {bm : Hp} {bs : List Nat}
theorem eK.xk (h : eK P s.hp bm bs) : eU P m s ⟨s.tm, bm, s.wr ++ bs⟩ id := by
 constructor
 ·intro aZ e C
  refine ⟨Nat.le_trans C.len h.tidy.len, fun b hb hn => ?_, fun b hb du => ?_⟩
  ·simp only [List.mem_append, not_or] at hn
   show bm[b]? = _
   rw [h.tidy.frame b (Nat.lt_of_lt_of_le hb C.len) hn.2]
   exact C.frame b hb hn.1
  ·by_cases mB : b ∈ bs
   ·exact C.alive b hb (h.tidy.j7 b mB)
   ·obtain ⟨blk, du⟩ := du
    exact C.alive b hb ⟨blk, by rw [<- h.tidy.frame b (Nat.lt_of_lt_of_le hb C.len) mB]; exact du⟩
 ·intro aZ I0 μ0 w0 e a w Im μ C
  subst e
  have hl := C.len
  have dP : ∀ b, bm.length <= b -> μ b = none := by
   intro b hb
   cases hq : μ b with
   | none => rfl
   | some g => have := C.cz b g hq; have := h.tidy.len; omega
  obtain ⟨μ1, G⟩ := h.run (I := Im) (μ := μ) (w := w) (acc := List.range s.hp.length) ⟨C.dj, fun b _ blk hb => C.holds b blk hb, fun b _ c _ b1 b2 g bp h1 h2 => C.inj b c b1 b2 g bp h1 h2, fun b h1 h2 => by
   cases hq : μ b with
   | none => rfl
   | some g => have := C.cz b g hq; omega⟩ (fun b hb => by simpa using h.tidy.iu b hb)
  have cL : ∀ b, b ∈ List.range s.hp.length \/ s.hp.length <= b := fun b => by rw [List.mem_range]; omega
  have back : ∀ c blk, bm[c]? = some (some blk) -> ∀ g, μ1.own c g -> (aZ.length <= c \/ c ∈ s.wr ++ bs) -> w0.heap.size <= g \/ ∃ d ∈ s.wr ++ bs, d < aZ.length /\ μ0.own d g /\ dt aZ d := by
   intro c blk hc g hg dv
   rcases G.back h.tidy.iu h.tidy.frame hc hg with h1 | ⟨d, h1, h2, h3, h4⟩
   ·exact .inl (Nat.le_trans C.cr.size h1)
   ·obtain ⟨bG, h4⟩ := h4
    by_cases hd : aZ.length <= d \/ d ∈ s.wr
    ·rcases C.dI d hd bG h4 g h3 with h5 | ⟨f, k1, k2, k3, k4⟩
     ·exact .inl h5
     ·exact .inr ⟨f, by simp [k1], k2, k3, k4⟩
    ·simp only [not_or, Nat.not_le] at hd
     have oY : d ∈ s.wr ++ bs := by
      rcases h1 with h1 | rfl
      ·simp [h1]
      ·rcases dv with h5 | h5
       ·omega
       ·exact h5
     refine .inr ⟨d, oY, hd.1, ?_, C.alive d hd.1 ⟨bG, h4⟩⟩
     rcases h3 with h3 | h3
     ·exact .inl (C.lv d g h3 hd.1)
     ·rw [C.cT d hd.1 hd.2] at h3; exact .inr h3
  refine ⟨Im, μ1, ⟨fun t => (C.tm t).keep (.refl w (fun _ => False)) (.refl _) G.le, C.size, C.defers, fun b blk hb => G.holds b (cL b) blk hb, fun b c b1 b2 g bp h1 h2 => G.inj b c b1 b2 g bp (cL b) (cL c) h1 h2, fun b g hg => ?_, fun b g hg hb => ?_, fun b hb hn => ?_, C.cr.mono fun k ⟨b, hb, h2⟩ => ⟨b, by simp [hb], h2⟩, C.le.trans G.le, fun b hb blk bu g hg => back b blk bu g hg hb, Nat.le_trans hl h.tidy.len, fun b hb hn => ?_, fun b hb du => ?_, fun b hb hl => ?_, C.dq, fun k hk => ?_, C.dj, C.m8⟩, fun v u hR => hR.keep (.refl w (fun _ => False)) (.refl _) G.le⟩
  ·rcases G.cz b g hg with h1 | h1
   ·exact Nat.lt_of_lt_of_le (C.cz b g h1) h.tidy.len
   ·exact h1.2
  ·rcases G.cz b g hg with h1 | h1
   ·exact C.lv b g h1 hb
   ·omega
  ·simp only [List.mem_append, not_or] at hn
   rw [G.cT b hn.2 af]
   exact C.cT b hb hn.1
  ·simp only [List.mem_append, not_or] at hn
   show bm[b]? = _
   rw [h.tidy.frame b (Nat.lt_of_lt_of_le hb hl) hn.2]
   exact C.frame b hb hn.1
  ·by_cases mB : b ∈ bs
   ·exact C.alive b hb (h.tidy.j7 b mB)
   ·obtain ⟨blk, du⟩ := du
    exact C.alive b hb ⟨blk, by rw [<- h.tidy.frame b (Nat.lt_of_lt_of_le hb hl) mB]; exact du⟩
  ·rcases List.mem_append.1 hb with hb | hb
   ·exact C.ur b hb hl
   ·exact C.alive b hl (h.tidy.j7 b hb)
  ·rcases C.ei k hk with h1 | h1 | ⟨c, h1, h2⟩
   ·exact .inl h1
   ·exact .inr (.inl h1)
   ·exact .inr (.inr ⟨c, by simp [h1], h2⟩)
theorem eU.trans {a b c : St} {f g : V -> V} (h : eU P m a b f) (k : eU P m b c g) : eU P m a c (g ∘ f) :=
 ⟨fun aZ e hs => k.st aZ e (h.st aZ e hs), fun e _ _ _ _ C => by
  obtain ⟨_, _, C1, h1⟩ := h.run e C
  obtain ⟨_, _, C2, h2⟩ := k.run e C1
  exact ⟨_, _, C2, fun v u hR => h2 _ _ (h1 _ _ hR)⟩⟩
theorem eU.trans' {a b c : St} (h : eU P m a b id) (k : eU P m b c id) : eU P m a c id := h.trans k
theorem eU.refl (a : St) : eU P m a a id := ⟨fun _ _ h => h, fun _ _ _ _ _ C => ⟨_, _, C, fun _ _ h => h⟩⟩
theorem eU.AD {a b : St} {f : V -> V} (h : eU P m a b f) : lq P m a b := ⟨h.st, fun e _ _ _ _ C => by
 obtain ⟨_, _, C1, _⟩ := h.run e C
 exact ⟨_, _, C1⟩⟩
end
abbrev gQ := TypeId -> Nat -> Option TypeId
def D9 (l : List V) (j : Nat) : Nat := (l.take j).foldl (fun k x => match x.seals with | some _ => 0 | none => k + 1) 0
def ownRefs (ow : gQ) (blk : bM) : List Nat := blk.1.zipIdx.flatMap fun x => match x.1 with
 | .sl c _ _ _ => match ow blk.2 (D9 blk.1 x.2) with
  | some _ => [c]
  | none => []
 | c => V.refs c
def reachO (ow : gQ) (hp : Hp) : Nat -> List Nat -> List Nat -> List Nat
 | 0, _, seen => seen
 | _ + 1, [], seen => seen
 | n + 1, b :: t, seen =>
  if seen.contains b then reachO ow hp n t seen else
  match hp[b]? with
  | some (some blk) => reachO ow hp n (t ++ ownRefs ow blk) (seen ++ [b])
  | _ => reachO ow hp n t seen
def V.noRoom : V -> Bool
 | .dsl n full _ => full && Nat.beq n 0
 | .lit (.slice none 0 0) => true
 | _ => false
theorem KE {c : V} (h : c.noRoom = true) : c.nilish = true := by
 unfold V.noRoom at h
 split at h
 ·rw [Bool.and_eq_true] at h
  obtain ⟨h1, h⟩ := h
  have := Nat.eq_of_beq_eq_true h
  subst this
  subst h1
  rfl
 ·rfl
 ·cases h
def packAt (ow : gQ) (m : Nat) (roots : List Nat) (b j : Nat) (s : St) : St :=
 match s.hp[b]? with
 | some (some blk) => match blk.1[j]? with
  | some (.sl c 0 n f) =>
   match (ow blk.2 (D9 blk.1 j)).isSome && Nat.ble m c && !roots.contains c && !(Nat.beq b c), s.hp[c]? with
   | true, some (some iR) => match V.refsL iR.1 with
    | [] => ⟨s.tm, (s.hp.set b (some (blk.1.take j ++ .osl iR.2 n (hasO iR.1) (flat iR.1) :: blk.1.drop (j + 1), blk.2))).set c none, s.wr ++ [b, c]⟩
    | _ => s
   | _, _ => s
  | some c => match ow blk.2 (D9 blk.1 j) with
   | some E => match c.noRoom with
    | true => ⟨s.tm, s.hp.set b (some (blk.1.take j ++ .osl E 0 false [] :: blk.1.drop (j + 1), blk.2)), s.wr ++ [b]⟩
    | false => s
   | none => s
  | none => s
 | _ => s
def rk (hp : Hp) (b : Nat) : List (Nat × Nat × Bool) := match hp[b]? with
 | some (some blk) => (List.range blk.1.length).map fun j => (b, j, true)
 | _ => []
def packL (ow : gQ) (m : Nat) (roots : List Nat) : Nat -> List (Nat × Nat × Bool) -> St -> St
 | 0, _, s => s
 | _ + 1, [], s => s
 | k + 1, (b, j, first) :: t, s =>
  match first, s.hp[b]? with
  | true, some (some blk) => match blk.1[j]? with
   | some (.sl c 0 n f) => packL ow m roots k (rk s.hp c ++ (b, j, false) :: t) s
   | _ => packL ow m roots k t (packAt ow m roots b j s)
  | _, _ => packL ow m roots k t (packAt ow m roots b j s)
section
variable {P : Program} {m : Nat}
theorem Ft {α : Type} {l : List α} {j : Nat} {x : α} (h : l[j]? = some x) : l = l.take j ++ x :: l.drop (j + 1) := by
 have hl := (List.getElem?_eq_some_iff.1 h).1
 conv => lhs; rw [<- List.take_append_drop j l]
 rw [List.drop_eq_getElem_cons hl]
 rw [List.getElem?_eq_getElem hl] at h
 rw [Option.some.inj h]
theorem Lh (ow : gQ) (roots : List Nat) (b j : Nat) (s : St) : eU P m s (packAt ow m roots b j s) id := by
 unfold packAt
 split
 case h_2 => exact .refl s
 rename_i blk hb
 split
 ·rename_i c n f hj
  split
  ·rename_i iR dv hc
   split
   ·rename_i hr
    have bp : b ≠ c := by
     simp only [Bool.and_eq_true, Bool.not_eq_true'] at dv
     intro e
     subst e
     simp at dv
    exact (YK (P := P) (hp := s.hp) (b := b) (c := c) (pr := blk.1.take j) (po := blk.1.drop (j + 1)) (n := n) (f := f) (T := blk.2) (E := iR.2) (l2 := iR.1) bp (by rw [hb, <- Ft hj]) (by rw [hc]) hr).xk
   ·exact .refl s
  ·exact .refl s
 ·rename_i c _ hj
  split
  case h_2 => exact .refl s
  rename_i E _
  split
  ·rename_i hn
   exact (YH (P := P) (hp := s.hp) (b := b) (c := c) (pr := blk.1.take j) (po := blk.1.drop (j + 1)) (T := blk.2) (E := E) (KE hn) (by rw [hb, <- Ft hj])).xk
  ·exact .refl s
 ·exact .refl s
theorem zE (ow : gQ) (roots : List Nat) : ∀ (k : Nat) (l : List (Nat × Nat × Bool)) (s : St), eU P m s (packL ow m roots k l s) id
 | 0, _, s => .refl s
 | _ + 1, [], s => .refl s
 | k + 1, (b, j, first) :: t, s => by
  unfold packL
  split
  ·split
   ·exact zE ow roots k _ s
   ·exact (Lh ow roots b j s).trans' (zE ow roots k t _)
  ·exact (Lh ow roots b j s).trans' (zE ow roots k t _)
end
def roomTm : List Nat -> St -> St
 | [], s => s
 | t :: ts, s => match s.tm.get t with
  | .sl b o n true => roomTm ts ⟨s.tm.put t (.sl b o n false), s.hp, s.wr⟩
  | _ => roomTm ts s
def roomBl : List (Nat × Nat) -> St -> St
 | [], s => s
 | (b, j) :: t, s => match s.hp[b]? with
  | some (some blk) => match blk.1[j]? with
   | some (.sl c o n true) => roomBl t ⟨s.tm, s.hp.set b (some (blk.1.take j ++ .sl c o n false :: blk.1.drop (j + 1), blk.2)), s.wr ++ [b]⟩
   | _ => roomBl t s
  | _ => roomBl t s
def sloBl : List Nat -> St -> St
 | [], s => s
 | b :: t, s => match s.hp[b]? with
  | some (some blk) => match V.refsL blk.1, dQ blk.2 with
   | [], true => sloBl t ⟨s.tm, s.hp.set b (some ([.cu (fV blk.1)], blk.2)), s.wr ++ [b]⟩
   | _, _ => sloBl t s
  | _ => sloBl t s
def nilTm : List (Nat × TypeId) -> St -> St
 | [], s => s
 | (t, E) :: ts, s => match (s.tm.get t).noRoom with
  | true => nilTm ts ⟨s.tm.put t (.sl s.hp.length 0 0 false), s.hp ++ [some ([], E)], s.wr⟩
  | false => nilTm ts s
def Lk (ow : gQ) (m : Nat) (roots : List Nat) (s : St) : St :=
 packL ow m roots 10000 (((reach s.hp 100000 roots (List.range m)).filter fun b => Nat.ble m b || s.wr.contains b).flatMap fun b => rk s.hp b) s
def mH (ow : gQ) (m : Nat) (roots : List Nat) (s : St) : List Nat :=
 (List.range m ++ (reachO ow s.hp 100000 (roots ++ ((List.range m).flatMap fun b => match s.hp[b]? with | some (some blk) => ownRefs ow blk | _ => [])) []).filter fun b => Nat.ble m b).eraseDups
def packF (P : Program) (ow : Option gQ) (m : Nat) (keep : List Nat) (v : V) (s : St) : V -> V := match ow with
 | some ow => match ib m (mH ow m (v.refs ++ keep.flatMap fun i => (s.tm.get i).refs) s) with
  | true => frz P s.hp (mH ow m (v.refs ++ keep.flatMap fun i => (s.tm.get i).refs) s) m 100
  | false => id
 | none => id
def pB (P : Program) (ow : Option gQ) (m : Nat) (keep : List Nat) (v : V) (s : St) : St := match ow with
 | some ow => match ib m (mH ow m (v.refs ++ keep.flatMap fun i => (s.tm.get i).refs) s) with
  | true =>
   Lk ow m ((frz P s.hp (mH ow m (v.refs ++ keep.flatMap fun i => (s.tm.get i).refs) s) m 100 v).refs ++ keep.flatMap fun i => ((fe P m keep (mH ow m (v.refs ++ keep.flatMap fun i => (s.tm.get i).refs) s) s).tm.get i).refs)
    (fe P m keep (mH ow m (v.refs ++ keep.flatMap fun i => (s.tm.get i).refs) s) s)
  | false => s
 | none => s
def v8 (P : Program) (m : Nat) (k : Kp) (s : St) : St := pB P k.pk m k.keep .iI (sloBl k.wq (roomBl k.lX (nilTm k.DY (roomTm k.ic s))))
def Xj (P : Program) (m : Nat) (k : Kp) (s : St) : St := wrS m k.wr (sealAll m (k.seals m s) (fe P m k.keep (k.ids m s) s))
def D4 (P : Program) (m : Nat) (k : Kp) (s : St) : St := Xj P m k (v8 P m k s)
def Ek (P : Program) (m : Nat) (k : Kp) (s : St) : Bool := ib m (k.ids m (v8 P m k s))
section
variable {P : Program} {m : Nat}
theorem YL {hp : Hp} (E : TypeId) : eK P hp (hp ++ [some ([], E)]) [] := by
 refine .of (.new hp _ (by simp)) fun {I μ w} pre => ?_
 have jo : μ hp.length = none := pre.fresh _ (Nat.le_refl _) (by simp)
 have aL : ∀ c blk, (hp ++ [some (([] : List V), E)])[c]? = some (some blk) -> hp.length <= c -> c = hp.length /\ blk = ([], E) := by
  intro c blk h hc
  rcases kJ h with ⟨h1, _⟩ | h
  ·omega
  ·exact h
 have gG : ∀ k, ¬ (μ.dY hp.length []).own hp.length k := by
  rintro k (hk | hk)
  ·have dD : μ hp.length = some k := hk
   rw [jo] at dD; cases dD
  ·rw [Mu.fN] at hk; cases hk
 refine ⟨μ.dY hp.length [], .refl _, fun _ h => .inl h, .refl _ _, Mu.ru _ _, fun _ _ h => .inl h, fun c _ hn => Mu.jB _ _ (by rintro rfl; exact hn ⟨Nat.le_refl _, by simp⟩), fun c hc blk h => ?_, fun c hc blk h g hg => ?_, fun c d b1 b2 g bp hc hd h1 h2 g1 g2 => ?_⟩
 ·rcases hc with hc | hc
  ·cases hc
  ·obtain ⟨rfl, rfl⟩ := aL c blk h hc
   exact .inr (.inl ⟨jo, by rw [Mu.fN]⟩)
 ·rcases hc with hc | hc
  ·obtain ⟨rfl, rfl⟩ := aL c blk h hc
   exact (gG g hg).elim
  ·cases hc
 ·rcases hc with hc | hc
  ·cases hc
  ·obtain ⟨rfl, _⟩ := aL c b1 h1 hc
   exact (gG g g1).elim
theorem Lx {s : St} {t : Nat} {v : V} (h : ∀ {I : Nat -> Prop} {μ : Mu} {w : World} {u : Value}, V.R P I μ w (s.tm.get t) u -> V.R P I μ w v u) : eU P m s ⟨s.tm.put t v, s.hp, s.wr⟩ id := by
 refine ⟨fun aZ e C => ⟨C.len, C.frame, C.alive⟩, fun {aZ I0 μ0 w0} e {a w Im μ} C => ⟨Im, μ, ⟨fun i => ?_, C.size, C.defers, C.holds, C.inj, C.cz, C.lv, C.cT, C.cr, C.le, C.dI, C.len, C.frame, C.alive, C.ur, C.dq, C.ei, C.dj, C.m8⟩, fun _ _ h => h⟩⟩
 show V.R P Im μ w ((s.tm.put t v).get i) _
 by_cases hi : t = i
 ·subst hi
  rcases s.tm.get_eq t v with h2 | h2
  ·rw [h2.1]; exact h (C.tm t)
  ·rw [h2]; simp [V.R]
 ·rw [s.tm.oU v hi]; exact C.tm i
theorem EB : ∀ (l : List Nat) (s : St), eU P m s (roomTm l s) id
 | [], s => .refl s
 | t :: ts, s => by
  unfold roomTm
  split
  ·rename_i b o n ht
   refine (Lx (fun {I μ w u} h => ?_)).trans' (EB ts _)
   rw [ht] at h
   simp only [V.R] at h ⊢
   rcases h with ⟨g, cap, e, N, i, q1, q2, q3, q4, _, q5⟩ | h
   ·exact .inl ⟨g, cap, e, N, i, q1, q2, q3, q4, by simp, q5⟩
   ·exact .inr h
  ·exact EB ts s
theorem Xi {I : Nat -> Prop} {μ : Mu} {w : World} {c : V} {u : Value} (h : c.noRoom = true) (hR : V.R P I μ w c u) : uG u :=
 KB (P := P) (I := I) (μ := μ) (w := w) (c := c) (KE h) hR
theorem DX : ∀ (l : List (Nat × TypeId)) (s : St), eU P m s (nilTm l s) id
 | [], s => .refl s
 | (t, E) :: ts, s => by
  unfold nilTm
  split
  ·rename_i ht
   have h1 := (YL (P := P) (hp := s.hp) E).xk (m := m) (s := s)
   rw [List.append_nil] at h1
   have h2 : eU P m (⟨s.tm, s.hp ++ [some ([], E)], s.wr⟩ : St) ⟨s.tm.put t (.sl s.hp.length 0 0 false), s.hp ++ [some ([], E)], s.wr⟩ id := Lx (fun {I μ w u} h => by
    simp only [V.R]
    exact .inr ⟨bn, bn, Xi ht h⟩)
   exact (h1.trans' h2).trans' (DX ts _)
  ·exact DX ts s
theorem zO : ∀ (l : List (Nat × Nat)) (s : St), eU P m s (roomBl l s) id
 | [], s => .refl s
 | (b, j) :: t, s => by
  unfold roomBl
  split
  ·rename_i blk hb
   split
   ·rename_i c o n hj
    exact (YM (P := P) (hp := s.hp) (b := b) (c := c) (pr := blk.1.take j) (po := blk.1.drop (j + 1)) (off := o) (n := n) (f := true) (T := blk.2) (by rw [hb, <- Ft hj])).xk.trans' (zO t _)
   ·exact zO t s
  ·exact zO t s
theorem zY : ∀ (l : List Nat) (s : St), eU P m s (sloBl l s) id
 | [], s => .refl s
 | b :: t, s => by
  unfold sloBl
  split
  ·rename_i blk hb
   split
   ·rename_i h1 h2
    exact (YN (P := P) (hp := s.hp) (b := b) (l := blk.1) (T := blk.2) hb h1 h2).xk.trans' (zY t _)
   ·exact zY t s
  ·exact zY t s
theorem Lj (ow : Option gQ) (keep : List Nat) (v : V) (s : St) : eU P m s (pB P ow m keep v s) (packF P ow m keep v s) := by
 unfold pB packF
 split
 ·split
  ·rename_i hp
   have h1 := re (P := P) (m := m) (keep := keep) (s := s) hp
   exact h1.trans (zE (P := P) (m := m) _ _ _ _ _)
  ·exact .refl s
 ·exact .refl s
theorem YG (k : Kp) (s : St) : ∃ f, eU P m s (v8 P m k s) f := ⟨_, ((((EB _ _).trans' (DX _ _)).trans' (zO _ _)).trans' (zY _ _)).trans (Lj _ _ _ _)⟩
theorem zA {k : Kp} {s : St} (hp : Ek P m k s = true) : lq P m s (D4 P m k s) := (YG k s).choose_spec.AD.trans (((Xk hp).trans (Z3 _ _)).trans aj4.AD)
end
section
variable {β : Type _}
def H0 (n : Nat) (k : Nat -> β) : β := match n with
 | 0 => k 0
 | n + 1 => k (n + 1)
theorem QH (n : Nat) (k : Nat -> β) : H0 n k = k n := by cases n <;> rfl
def forceNs (l : List Nat) (k : List Nat -> β) : β := match l with
 | [] => k []
 | x :: xs => H0 x fun y => forceNs xs fun ys => k (y :: ys)
theorem ta : ∀ (l : List Nat) (k : List Nat -> β), forceNs l k = k l
 | [], _ => rfl
 | x :: xs, k => by unfold forceNs; rw [QH, ta xs]
def forceVs (l : List V) (k : List V -> β) : β := match l with
 | [] => k []
 | x :: xs => my x fun y => forceVs xs fun ys => k (y :: ys)
theorem H3 : ∀ (l : List V) (k : List V -> β), forceVs l k = k l
 | [], _ => rfl
 | x :: xs, k => by unfold forceVs; rw [qy, H3 xs]
def forceB (full : Bool) (b : Option bM) (k : Option bM -> β) : β := match b with
 | none => k none
 | some (l, t) => match full with
  | true => forceVs l fun l => k (some (l, t))
  | false => k (some (l, t))
theorem QG (full : Bool) (b : Option bM) (k : Option bM -> β) : forceB full b k = k b := by
 cases b with
 | none => rfl
 | some b => cases full <;> simp only [forceB, H3]
def forceH (p : Nat -> Bool) : Nat -> Hp -> (Hp -> β) -> β
 | _, [], k => k []
 | i, b :: bs, k => forceB (p i) b fun c => forceH p (i + 1) bs fun cs => k (c :: cs)
theorem HZ (p : Nat -> Bool) : ∀ (l : Hp) (i : Nat) (k : Hp -> β), forceH p i l k = k l
 | [], _, _ => rfl
 | b :: bs, i, k => by unfold forceH; rw [QG, HZ p bs]
def qx (m : Nat) (s : St) (k : St -> β) : β := forceNs s.wr fun wr => forceH (fun i => Nat.ble m i || wr.contains i) 0 s.hp fun hp => k ⟨s.tm, hp, wr⟩
theorem u5 (m : Nat) (s : St) (k : St -> β) : qx m s k = k s := by unfold qx; rw [ta, HZ]
def normTmC (P : Program) (hp : Hp) (perm : List Nat) (m : Nat) (tm : Tm) : List Nat -> Tm -> (Tm -> β) -> β
 | [], t, k => k t
 | i :: is, t, k => my (frz P hp perm m 100 (tm.get i)) fun v => lU t (some i) v fun t => normTmC P hp perm m tm is t k
theorem KI (P : Program) (hp : Hp) (perm : List Nat) (m : Nat) (tm : Tm) : ∀ (is : List Nat) (t : Tm) (k : Tm -> β), normTmC P hp perm m tm is t k = k (normTm P hp perm m tm is t)
 | [], _, _ => rfl
 | i :: is, t, k => by unfold normTmC normTm; rw [qy, tN, KI P hp perm m tm is]; rfl
def zB (P : Program) (m : Nat) (keep perm : List Nat) (s : St) (k : St -> β) : β :=
 normTmC P s.hp perm m s.tm keep ⟨s.tm.n, Tr.mk0 11⟩ fun tm =>
 qx m ⟨tm, perm.map (fun b => if decide (b < m) && !s.wr.contains b then s.hp.getD b none else (s.hp.getD b none).map fun blk => (blk.1.map (frz P s.hp perm m 100), blk.2)), (s.wr.filter fun b => decide (b < m)).eraseDups⟩ k
theorem KH (P : Program) (m : Nat) (keep perm : List Nat) (s : St) (k : St -> β) : zB P m keep perm s k = k (fe P m keep perm s) := by
 unfold zB fe
 rw [KI, u5]
def packLC (ow : gQ) (m : Nat) (roots : List Nat) : Nat -> List (Nat × Nat × Bool) -> St -> (St -> β) -> β
 | 0, _, s, k => k s
 | _ + 1, [], s, k => k s
 | n + 1, (b, j, first) :: t, s, k =>
  match first, s.hp[b]? with
  | true, some (some blk) => match blk.1[j]? with
   | some (.sl c 0 _ _) => packLC ow m roots n (rk s.hp c ++ (b, j, false) :: t) s k
   | _ => qx m (packAt ow m roots b j s) fun s => packLC ow m roots n t s k
  | _, _ => qx m (packAt ow m roots b j s) fun s => packLC ow m roots n t s k
theorem zD (ow : gQ) (m : Nat) (roots : List Nat) : ∀ (n : Nat) (l : List (Nat × Nat × Bool)) (s : St) (k : St -> β), packLC ow m roots n l s k = k (packL ow m roots n l s)
 | 0, _, _, _ => rfl
 | _ + 1, [], _, _ => rfl
 | n + 1, (b, j, first) :: t, s, k => by
  unfold packLC packL
  split
  ·split
   ·exact zD ow m roots n _ s k
   ·rw [u5]; exact zD ow m roots n _ _ k
  ·rw [u5]; exact zD ow m roots n _ _ k
def Ll (ow : gQ) (m : Nat) (roots : List Nat) (s : St) (k : St -> β) : β :=
 packLC ow m roots 10000 (((reach s.hp 100000 roots (List.range m)).filter fun b => Nat.ble m b || s.wr.contains b).flatMap fun b => rk s.hp b) s k
theorem Yf (ow : gQ) (m : Nat) (roots : List Nat) (s : St) (k : St -> β) : Ll ow m roots s k = k (Lk ow m roots s) := zD ow m roots _ _ s k
def zC (P : Program) (ow : gQ) (m : Nat) (keep : List Nat) (v : V) (s : St) (k : Option (List Nat) -> St -> β) : β :=
 qx m s fun s => forceNs (mH ow m (v.refs ++ keep.flatMap fun i => (s.tm.get i).refs) s) fun ids => match ib m ids with
  | true => zB P m keep ids s fun s1 => forceNs ((frz P s.hp ids m 100 v).refs ++ keep.flatMap fun i => (s1.tm.get i).refs) fun roots => Ll ow m roots s1 fun s2 => k (some ids) s2
  | false => k none s
theorem Li (P : Program) (ow : gQ) (m : Nat) (keep : List Nat) (v : V) (s : St) (k : Option (List Nat) -> St -> β) :
  zC P ow m keep v s k = k (match ib m (mH ow m (v.refs ++ keep.flatMap fun i => (s.tm.get i).refs) s) with | true => some (mH ow m (v.refs ++ keep.flatMap fun i => (s.tm.get i).refs) s) | false => none) (pB P (some ow) m keep v s) := by
 unfold zC pB
 rw [u5, ta]
 dsimp only
 cases ib m (mH ow m (v.refs ++ keep.flatMap fun i => (s.tm.get i).refs) s)
 ·rfl
 ·dsimp only
  rw [KH, ta, Yf]
def normC (P : Program) (m : Nat) (kp : Kp) (s : St) (k : Bool -> St -> β) : β := match kp.pk with
 | none => k (Ek P m kp s) (D4 P m kp s)
 | some ow => zC P ow m kp.keep .iI (sloBl kp.wq (roomBl kp.lX (nilTm kp.DY (roomTm kp.ic s)))) fun _ s1 => forceNs (kp.ids m s1) fun ids => forceNs (kp.seals m s1) fun seals =>
  zB P m kp.keep ids s1 fun s2 => qx m (sealAll m seals s2) fun s3 => k (ib m ids) (wrS m kp.wr s3)
theorem KG (P : Program) (m : Nat) (kp : Kp) (s : St) (k : Bool -> St -> β) : normC P m kp s k = k (Ek P m kp s) (D4 P m kp s) := by
 unfold normC
 split
 ·rfl
 ·rename_i ow h
  rw [Li, ta, ta, KH, u5]
  have e : pB P (some ow) m kp.keep .iI (sloBl kp.wq (roomBl kp.lX (nilTm kp.DY (roomTm kp.ic s)))) = v8 P m kp s := by unfold v8; rw [h]
  rw [e]
  rfl
end
def All : List Prop -> Prop
 | [] => True
 | p :: ps => p /\ All ps
theorem All.append : ∀ {ps qs : List Prop}, All (ps ++ qs) -> All ps /\ All qs
 | [], _, h => ⟨bn, h⟩
 | _ :: _, _, h => ⟨⟨h.1, (All.append h.2).1⟩, (All.append h.2).2⟩
section
variable {P : Program}
structure aV (P : Program) (m : Nat) (c : Code) (s : St) (ex : Ex) (s' : St) : Prop where
 st : ∀ aZ : Hp, aZ.length = m -> SR aZ s -> SR aZ s'
 run : ∀ {aZ : Hp} {I0 : Nat -> Prop} {μ0 : Mu} {w0 : World}, aZ.length = m -> ∀ {a : Act} {w : World} {Im : Nat -> Prop} {μ : Mu}, CI P aZ I0 μ0 w0 s a w Im μ ->
  ∀ {Q : Exit -> Act -> World -> Prop}, (∀ a' w' μ' cJ, CI P aZ I0 μ0 w0 s' a' w' cJ μ' -> Q ex.toExit a' w') -> c.wp P Q a w
theorem aV.skip {m : Nat} {s : St} : aV P m .skip s .normal s := ⟨fun _ _ h => h, fun _ _ _ _ _ C _ hQ => wp_skip (hQ _ _ _ _ C)⟩
theorem aV.exit {m id : Nat} {s : St} : aV P m (.exit id) s (.exit id) s := ⟨fun _ _ h => h, fun _ _ _ _ _ C _ hQ => wp_exit (hQ _ _ _ _ C)⟩
theorem aV.ret {m : Nat} {s : St} : aV P m .ret s .ret s := ⟨fun _ _ h => h, fun _ _ _ _ _ C _ hQ => wp_ret (hQ _ _ _ _ C)⟩
theorem aV.region (hm : P.follows .mixedOrders = true) (hn : dA P) {ops : Array Oper} {m id : Nat} {draw : Bool} {s s' : St} {l : List Rec} (hl : me P ops ops.toList s l s') (hd : draw = true -> sG ops l s' = true) : aV P m (.region id ops draw) s .normal s' :=
 ⟨fun _ _ h => Y0 hl h, fun _ _ _ _ _ C _ hQ => YZ hm hn hl hd C hQ⟩
theorem aV.seq {m : Nat} {x y : Code} {s s1 s2 : St} {ex : Ex} (h : aV P m x s .normal s1) (k : aV P m y s1 ex s2) : aV P m (.seq x y) s ex s2 :=
 ⟨fun aZ e hs => k.st aZ e (h.st aZ e hs), fun e _ _ _ _ C _ hQ => wp_seq (h.run e C fun _ _ _ _ C' => k.run e C' hQ)⟩
theorem aV.zV {m : Nat} {x y : Code} {s s1 : St} {ex : Ex} (h : aV P m x s ex s1) (bp : ex ≠ .normal) : aV P m (.seq x y) s ex s1 :=
 ⟨h.st, fun e _ _ _ _ C _ hQ => wp_seq (h.run e C fun a' w' μ' cJ C' => by
  have := hQ a' w' μ' cJ C'
  cases ex with
  | normal => exact absurd rfl bp
  | exit _ => exact this
  | ret => exact this)⟩
theorem aV.Ot {m id : Nat} {c : Code} {s s1 : St} (h : aV P m c s (.exit id) s1) : aV P m (.block id c) s .normal s1 :=
 ⟨h.st, fun e _ _ _ _ C _ hQ => wp_block (h.run e C fun a' w' μ' cJ C' => by
  simp only [Ex.toExit, Exit.inBlock, if_true]; exact hQ a' w' μ' cJ C')⟩
theorem aV.Bu {m id : Nat} {c : Code} {s s1 : St} {ex : Ex} (h : aV P m c s ex s1) (bp : ex ≠ .exit id) : aV P m (.block id c) s ex s1 :=
 ⟨h.st, fun e _ _ _ _ C _ hQ => wp_block (h.run e C fun a' w' μ' cJ C' => by
  have := hQ a' w' μ' cJ C'
  cases ex with
  | normal => exact this
  | exit i =>
   simp only [Ex.toExit, Exit.inBlock]
   rw [if_neg (fun e => bp (by rw [e]))]
   exact this
  | ret => exact this)⟩
theorem aV.pre {m : Nat} {c : Code} {s s0 s' : St} {ex : Ex} (h : lq P m s s0) (k : aV P m c s0 ex s') : aV P m c s ex s' :=
 ⟨fun aZ e hs => k.st aZ e (h.st aZ e hs), fun e _ _ _ _ C _ hQ => by
  obtain ⟨_, _, C'⟩ := h.run e C
  exact k.run e C' hQ⟩
theorem aV.post {m : Nat} {c : Code} {s s0 s' : St} {ex : Ex} (k : aV P m c s ex s0) (h : lq P m s0 s') : aV P m c s ex s' :=
 ⟨fun aZ e hs => h.st aZ e (k.st aZ e hs), fun e _ _ _ _ C _ hQ => k.run e C fun a' w' _ _ C' => by
  obtain ⟨_, _, NR⟩ := h.run e C'
  exact hQ a' w' _ _ NR⟩
inductive a8 (P : Program) (m : Nat) (body : Code) : St -> Ex -> St -> Prop where
 | done {s s' : St} {ex : Ex} (h : aV P m body s ex s') (bp : ex ≠ .normal) : a8 P m body s ex s'
 | step {s s1 s' : St} {ex : Ex} (h : aV P m body s .normal s1) (k : a8 P m body s1 ex s') : a8 P m body s ex s'
theorem aV.bg {m : Nat} {body : Code} {s s' : St} {ex : Ex} (h : a8 P m body s ex s') : aV P m (.loop body) s ex s' := by
 have key : ∃ N, (∀ aZ : Hp, aZ.length = m -> SR aZ s -> SR aZ s') /\
   ∀ {aZ : Hp} {I0 : Nat -> Prop} {μ0 : Mu} {w0 : World}, aZ.length = m -> ∀ {a : Act} {w : World} {Im : Nat -> Prop} {μ : Mu}, CI P aZ I0 μ0 w0 s a w Im μ ->
    ∀ {Q : Exit -> Act -> World -> Prop}, (∀ a' w' μ' cJ, CI P aZ I0 μ0 w0 s' a' w' cJ μ' -> Q ex.toExit a' w') -> Code.rounds P body Q N a w := by
  induction h with
  | @done s s' ex h bp =>
   refine ⟨1, h.st, fun e _ _ _ _ C Q hQ => ?_⟩
   rw [rounds_succ]
   refine h.run e C fun a' w' μ' cJ C' => ?_
   have := hQ a' w' μ' cJ C'
   cases ex with
   | normal => exact absurd rfl bp
   | exit i => exact this
   | ret => exact this
  | @step s s1 s' ex h k ih =>
   obtain ⟨N, h1, h2⟩ := ih
   refine ⟨N + 1, fun aZ e hs => h1 aZ e (h.st aZ e hs), fun e _ _ _ _ C Q hQ => ?_⟩
   rw [rounds_succ]
   exact h.run e C fun a' w' μ' cJ C' => h2 e C' hQ
 obtain ⟨N, h1, h2⟩ := key
 exact ⟨h1, fun e _ _ _ _ C _ hQ => wp_loop_rounds N (h2 e C hQ)⟩
end
def Gs (P : Program) (f : FuncId) : Code := match P.funcs[f]? with
 | some fn => match fn.body with
  | some c => c
  | none => .skip
 | none => .skip
def oR (id : Nat) : Code -> Option Code
 | .seq x y => match oR id x with
  | some c => some c
  | none => oR id y
 | .cond _ x y => match oR id x with
  | some c => some c
  | none => oR id y
 | .block i c => if Nat.beq i id then some c else oR id c
 | .loop c => oR id c
 | _ => none
def lp (P : Program) (f : FuncId) (id : Nat) : Code := match oR id (Gs P f) with
 | some (.loop c) => c
 | _ => .skip
def blk (P : Program) (f : FuncId) (id : Nat) : Code := match oR id (Gs P f) with
 | some c => c
 | _ => .skip
def outEx (id : Nat) : Ex -> Ex
 | .exit i => if i = id then .normal else .exit i
 | e => e
def Wf (P : Program) : Bool := P.funcs.toList.all fun fn => fn.name != "runtime.NumGoroutine"
theorem Wi {P : Program} (h : Wf P = true) : dA P := by
 intro f fn hf
 have := List.all_eq_true.1 h fn (by
  obtain ⟨bO, e⟩ := Array.getElem?_eq_some_iff.1 hf
  rw [<- e]; simp)
 simpa using this
section
variable {P : Program}
theorem aV.cond {m : Nat} {c : Operand} {x y : Code} {s s' : St} {ex : Ex} {b : Bool} (hb : evalV s.tm c = .bool b) (h : aV P m (if b then x else y) s ex s') : aV P m (.cond c x y) s ex s' := by
 refine ⟨h.st, fun {aZ I0 μ0 w0} e {a w Im μ} C {Q} hQ => ?_⟩
 have hR : V.R P Im μ w (evalV s.tm c) (a.eval c) := by
  cases c with
  | tmp t => exact C.tm t
  | const v => exact Gi v
  | global g => simp [evalV, V.R]
  | func f => simp [evalV, Act.eval, V.R, V.RL]
 rw [hb] at hR
 simp only [V.R] at hR
 cases b with
 | true => exact wp_cond_true hR (h.run e C hQ)
 | false => exact wp_cond_false hR (h.run e C hQ)
theorem aV.block {m id : Nat} {c : Code} {s s1 : St} {ex : Ex} (h : aV P m c s ex s1) : aV P m (.block id c) s (outEx id ex) s1 := by
 cases ex with
 | normal => exact h.Bu (by simp)
 | ret => exact h.Bu (by simp)
 | exit i =>
  simp only [outEx]
  split
  ·rename_i e; subst e; exact h.Ot
  ·rename_i e; exact h.Bu (by simpa using e)
theorem HU {f : FuncId} {fn : Func} {c : Code} {vs : List V} {hp : Hp} {ex : Ex} {s : St} {v : List V} {r : aj} (gW : P.funcs[f]? = some fn) (hc : fn.body = some c)
  (h : aV P hp.length c ⟨Tm.start (vs.length + (fn.ntmps - vs.length)) vs, hp, []⟩ ex s) (hex : ex = .normal \/ ex = .ret) (vK : evResultL P s.hp s.tm fn.results.toList = some v)
  (ht : SR hp s -> xM hp r)
  (hg : ∀ {I Im : Nat -> Prop} {μ μ' : Mu} {w w' : World} {a : Act} {val : Value}, CI P hp I μ w s a w' Im μ' -> V.R P Im μ' w' (oneOf v) val -> ∃ μr Ir, V.R P Ir μr w' r.v val /\ Good P I Ir μ μr w w' hp r.hp (List.range hp.length) r.wr) : ao P f vs hp r := by
 have cG : SR hp s := h.st hp rfl ⟨Nat.le_refl _, fun _ _ _ => rfl, fun _ _ h => h⟩
 refine ⟨ht cG, fun I w μ ch kr pre dO => ?_⟩
 have hh : ∀ b blk, hp[b]? = some (some blk) -> Holds P I μ w b blk := fun b blk hb => pre.holds b (by simpa using eV hb) blk hb
 have IL : ∀ b c blk bG g, b ≠ c -> hp[b]? = some (some blk) -> hp[c]? = some (some bG) -> μ.own b g -> μ.own c g -> False := fun b c b1 b2 g bp hb hc => pre.inj b (by simpa using eV hb) c (by simpa using eV hc) b1 b2 g bp hb hc
 have fa := kr.length
 simp at fa
 have C0 : CI P hp I μ w ⟨Tm.start (vs.length + (fn.ntmps - vs.length)) vs, hp, []⟩ { tmps := ch ++ Array.replicate (fn.ntmps - ch.size) undef, defers := [] } w I μ := by
  refine ⟨fun t => ?_, by simp [fa, Tm.start, Tm.HO], rfl, hh, IL, dO, fun b g hg _ => hg, fun _ _ _ => rfl, .refl _ _, .refl _, fun b hb blk bu => ?_, Nat.le_refl _, fun _ _ _ => rfl, fun _ _ h => h, by simp, .refl _, fun k h => .inl h, pre.dj, ⟨hh, IL, dO⟩⟩
  ·rcases Tm.ad7 (vs.length + (fn.ntmps - vs.length)) vs t with e | e
   ·show V.R P I μ w ((Tm.start (vs.length + (fn.ntmps - vs.length)) vs).get t) _
    rw [e]; simp [V.R]
   ·have ht : t < vs.length := (List.getElem?_eq_some_iff.1 e).1
    obtain ⟨u, hu, hR⟩ := kr.get e
    rw [Array.getElem?_toList] at hu
    rw [Array.getD_eq_getD_getElem?, Array.getElem?_append, if_pos af, hu]
    exact hR
  ·have := eV (hp := hp) bu
   rcases hb with hb | hb
   ·omega
   ·cases hb
 refine calls_of_wp gW hc ?_
 refine h.run rfl C0 fun a' w' μ' cJ C => ?_
 obtain ⟨val, hr, hR⟩ := Zj (fn := fn) C.tm C.holds C.dj C.inj vK
 obtain ⟨μr, Ir, Ik, hG⟩ := hg C hR
 rcases hex with rfl | rfl
 ·exact ⟨C.defers, val, hr, val, μr, Ir, rfl, Ik, hG⟩
 ·exact ⟨C.defers, val, hr, val, μr, Ir, rfl, Ik, hG⟩
theorem QC {f : FuncId} {fn : Func} {c : Code} {vs : List V} {hp : Hp} {ex : Ex} {s : St} {v : List V} {r : aj} (gW : P.funcs[f]? = some fn) (hc : fn.body = some c)
  (h : aV P hp.length c ⟨Tm.start (vs.length + (fn.ntmps - vs.length)) vs, hp, []⟩ ex s) (hex : ex = .normal \/ ex = .ret) (vK : evResultL P s.hp s.tm fn.results.toList = some v)
  {s' : St} {g : V -> V} (hw : eU P hp.length s s' g) {ids seals : List Nat} (lI : ib hp.length ids = true) (hr : gc P hp.length ids seals (g (oneOf v)) s' = r) : ao P f vs hp r := by
 subst hr
 refine HU gW hc h hex vK (fun cG => Q1 lI (hw.st hp rfl cG)) fun C hR => ?_
 obtain ⟨Im2, μ2, C2, hV⟩ := hw.run rfl C
 exact Q0 lI C2 (hV _ _ hR)
end
end Go.Proofs.YtlomaojlpodibaaGreat
namespace Go.Proofs.YtlomaojlpodibaaGreat
open Go.RowKit
set_option maxRecDepth 100000
def ah {α : Type} (enc : α -> List V) (L : List α) : List V := L.flatMap enc
open Classical in
noncomputable def ae {α : Type} (enc : α -> List V) (cs : List V) : List α := if h : ∃ L, ah enc L = cs then h.choose else []
abbrev Vw := TypeId -> List V -> Nat -> Option (List V)
inductive SO where
 | one (ps : List Prop) (o : Out)
 | two (c : Bool) (ps : List Prop) (o : Out) (qs : List Prop) (o' : Out)
 | no
def SO.OK (r : Option Out) : SO -> Prop
 | .one ps o => All ps -> r = some o
 | .two c ps o qs o' => (c = true -> All ps -> r = some o) /\ (c = false -> All qs -> r = some o')
 | .no => True
def gw : Option Out -> SO
 | some o => .one [] o
 | none => .no
theorem iK (r : Option Out) : (gw r).OK r := by
 cases r with
 | none => trivial
 | some o => exact fun _ => rfl
def sIndexAddr (P : Program) (vw : Vw) (hp : Hp) (t : TypeId) (x i : V) : SO :=
 match x, i, P.underlying t with
 | .dsl n _ cs, .int _ k, some (.slice el) => match da P el, vw el cs k.toNat with
  | some s, some v => .one [0 <= k /\ k < n, (cs.drop (k.toNat * s)).take v.length = v] ⟨.dptr (v ++ cs.drop (k.toNat * s + v.length)), hp, [], []⟩
  | some s, none => .one [0 <= k /\ k < n] ⟨.dptr (cs.drop (k.toNat * s)), hp, [], []⟩
  | _, _ => .no
 | .sl b off n _, .int _ k, some (.slice el) => match da P el with
  | some s => .one [0 <= k /\ k < n] ⟨.eptr b (off + k.toNat * s) 0, hp, [], []⟩
  | none => .no
 | _, _, _ => .no
def sIndex (P : Program) (hp : Hp) (t : TypeId) (x i : V) : SO :=
 match x, i, P.underlying t with
 | .str l, .int _ k, some .string => .one [0 <= k /\ k < l.length] ⟨.int .u8 ((l.getD k.toNat 0).toNat : Nat), hp, [], []⟩
 | _, _, _ => .no
def sBound (x : Option V) (d mI : Nat) : Option (List Prop × Nat) :=
 match x with
 | none => some ([], d)
 | some (.int _ i) => some ([0 <= i /\ i <= mI], i.toNat)
 | _ => none
def sSlice (P : Program) (hp : Hp) (t : TypeId) (x : V) (lo hi mx : Option V) : SO :=
 match x, mx with
 | .str l, none =>
  match P.underlying t, sBound hi l.length l.length with
  | some .string, some (ps, h) => match sBound lo 0 h with
   | some (qs, k) => .one (ps ++ qs) ⟨.str ((l.take h).drop k), hp, [], []⟩
   | none => .no
  | _, _ => .no
 | .dsl n full cs, none =>
  match P.underlying t, sBound hi n n with
  | some (.slice e), some (ps, h) => match sBound lo 0 h, da P e with
   | some (qs, k), some s => .one (ps ++ qs) ⟨.dsl (h - k) (full && h == n) ((cs.take (h * s)).drop (k * s)), hp, [], []⟩
   | _, _ => .no
  | _, _ => .no
 | .sl b off n full, none =>
  match P.underlying t, sBound hi n n, hp[b]? with
  | some (.slice e), some (ps, h), some (some blk) => match sBound lo 0 h, da P e, blk.2 == e with
   | some (qs, k), some s, true =>
    match lo with
    | none => .one (ps ++ qs) ⟨.sl b off h (full && h == n), hp, [b], []⟩
    | some _ => .two (decide (k < h)) (ps ++ qs) ⟨.sl b (off + k * s) (h - k) (full && h == n), hp, [b], []⟩ (ps ++ qs) ⟨.dsl 0 (full && h == n) [], hp, [b], []⟩
   | _, _, _ => .no
  | _, _, _ => .no
 | .dsl n _ cs, some m =>
  match P.underlying t, sBound (some m) 0 n, hi with
  | some (.slice e), some (ps, m), some hi => match sBound (some hi) 0 m with
   | some (qs, h) => match sBound lo 0 h, da P e with
    | some (rs, k), some s => .one (ps ++ qs ++ rs) ⟨.dsl (h - k) (m == h) ((cs.take (h * s)).drop (k * s)), hp, [], []⟩
    | _, _ => .no
   | none => .no
  | _, _, _ => .no
 | x, mx => gw (evSlice P hp t x lo hi mx)
def sSrc (hp : Hp) (size : Nat) : V -> Option (List Prop × List Nat × Nat × List V)
 | .dsl m _ cs => some ([cs.length = m * size, cs.all V.one = true], [], m, [.aJ cs])
 | .sl b off m full =>
  match hp[b]? with
  | some (some blk) => match c7 blk.1 with
   | true => some ([off = 0, (flat blk.1).length = m * size, (flat blk.1).all V.one = true], [b], m, blk.1)
   | false => match srcV hp size (.sl b off m full) with
    | some (bs, m, news) => some ([], bs, m, news)
    | none => none
  | _ => none
 | _ => none
def sAppend (P : Program) (hp : Hp) (t t' : TypeId) (s x : V) : SO :=
 match P.underlying t with
 | some (.slice elem) =>
  match P.info? elem with
  | some i =>
   match i.zero, t == t' with
   | some z, true =>
    match decide (0 < i.size /\ z.cells.size = i.size), sSrc hp i.size x with
    | true, some (ps, bs, m, news) =>
     match s with
     | .sl b off n _ =>
      match hp[b]? with
      | some (some blk) =>
       match blk.2 == elem with
       | true => .one (ps ++ [off = 0, (flat blk.1).length = n * i.size, n + m <= maxLen, (n + m) * i.bytes <= 140737488355328])
         ⟨.sl hp.length 0 (n + m) false, hp.set b none ++ [some (blk.1 ++ news, elem)], b :: bs, [b]⟩
       | false => .no
      | _ => .no
     | .dsl n full cs =>
      .two (m == 0) ps ⟨.dsl n full cs, hp, bs, []⟩ (ps ++ [full = true, cs.length = n * i.size, n + m <= maxLen, (n + m) * i.bytes <= 140737488355328])
       ⟨.sl hp.length 0 (n + m) false, hp ++ [some (.aJ cs :: news, elem)], bs, []⟩
     | _ => .no
    | _, _ => .no
   | _, _ => .no
  | none => .no
 | _ => .no
def sEqs (P : Program) (xs ys : List V) : List Field -> Option Bool
 | [] => some true
 | f :: fs =>
  match f.name == "_", xs[f.offset]?, ys[f.offset]? with
  | false, some x, some y =>
   match flatEq P f x y, sEqs P xs ys fs with
   | some a, some b => some (a && b)
   | _, _ => none
  | _, _, _ => none
def sBin (P : Program) (hp : Hp) (op : BinOp) (t : TypeId) (x y : V) : SO :=
 match x, y with
 | .str a, .str b => match op with
  | .add => .one [a.length + b.length <= 4611686018427387904] ⟨.str (a ++ b), hp, [], []⟩
  | op => gw ((evStr op a b).map fun v => ⟨v, hp, [], []⟩)
 | .int k a, .int k' b => match op with
  | .quo => match decide (k = k') with
   | true => .one [b ≠ 0] ⟨.int k (k.wrap (a.tdiv b)), hp, [], []⟩
   | false => .no
  | .rem => match decide (k = k') with
   | true => .one [b ≠ 0] ⟨.int k (a.tmod b), hp, [], []⟩
   | false => .no
  | op => gw ((evBin P op t (.int k a) (.int k' b)).map fun v => ⟨v, hp, [], []⟩)
 | .agg xs, .agg ys => match P.underlying t, P.stoodInHeld t, P.eqGuardType P.depth t, op with
  | some (.struct fs), false, false, .eql => match sEqs P xs ys fs.toList with
   | some r => .one [] ⟨.bool r, hp, [], []⟩
   | none => .no
  | some (.struct fs), false, false, .neq => match sEqs P xs ys fs.toList with
   | some r => .one [] ⟨.bool (!r), hp, [], []⟩
   | none => .no
  | _, _, _, _ => .no
 | x, y => gw ((evBin P op t x y).map fun v => ⟨v, hp, [], []⟩)
def aR (b : UInt8) : List V := [.int .u8 (b.toNat : Nat)]
def gE (l : List UInt8) : List V := l.map fun b => V.int .u8 (b.toNat : Nat)
noncomputable def bytesSeg : List V -> Option (List Prop × List UInt8)
 | [] => some ([], [])
 | x :: t => match x, bytesSeg t with
  | .aJ c, some (ps, l) => some ((c = gE (ae aR c)) :: ps, ae aR c ++ l)
  | .int .u8 n, some (ps, l) => some ((0 <= n /\ n < 256) :: ps, UInt8.ofNat n.toNat :: l)
  | _, _ => none
noncomputable def sConv (P : Program) (hp : Hp) (s d : TypeId) (x : V) : SO :=
 match x with
 | .dsl n _ cs => match P.underlying s, P.underlying d with
  | some (.slice e), some .string => match P.underlying e with
   | some (.int .u8) => .one [cs = gE (ae aR cs), (ae aR cs).length = n] ⟨.str (ae aR cs), hp, [], []⟩
   | _ => .no
  | _, _ => .no
 | .sl b off n full => match P.underlying s, P.underlying d with
  | some (.slice e), some .string => match P.underlying e, hp[b]? with
   | some (.int .u8), some (some blk) => match bytesSeg blk.1 with
    | some (ps, l) => .one (ps ++ [off = 0, l.length = n]) ⟨.str l, hp, [b], []⟩
    | none => .no
   | _, _ => .no
  | _, _ => .no
 | .str l => match P.underlying s, P.underlying d with
  | some .string, some (.slice e) => match P.underlying e, P.info? e with
   | some (.int .u8), some i => match decide (i.size = 1) with
    | true => .one [l.length <= maxLen] ⟨.sl hp.length 0 l.length false, hp ++ [some ([.aJ (gE l)], e)], [], []⟩
    | false => .no
   | _, _ => .no
  | _, _ => gw (evConv P hp s d (.str l))
 | x => gw (evConv P hp s d x)
def sMake (P : Program) (hp : Hp) (t : TypeId) (l c : V) : SO :=
 match l, c with
 | .int _ l, .int _ c =>
  match P.underlying t with
  | some (.slice elem) =>
   match P.info? elem with
   | some i =>
    match i.zero with
    | some z =>
     match decide (i.bytes <= 1048576 /\ 0 < i.size /\ z.cells.size = i.size) with
     | true => .one [0 <= l /\ l <= c /\ c <= 1048576] ⟨.sl hp.length 0 l.toNat (l == c), hp ++ [some ([.aJ (gB (z.cells.toList.map ofScalar) (c.toNat * i.size))], elem)], [], []⟩
     | false => .no
    | none => .no
   | none => .no
  | _ => .no
 | _, _ => .no
def sLoad (P : Program) (vw : Vw) (hp : Hp) (t : TypeId) (x : V) : SO :=
 match x with
 | .ptr b o => match hp[b]? with
  | some (some blk) => match c7 blk.1 && dQ blk.2 with
   | true => match P.underlying t, da P t with
    | some d, some s => match vw t (flat blk.1) (o / s) with
     | some v => match v.length == s, jA d, v, iJ v with
      | true, true, v, true => .one [((flat blk.1).drop o).take s = v] ⟨.agg v, hp, [b], []⟩
      | true, false, [c], true => .one [((flat blk.1).drop o).take s = [c]] ⟨c, hp, [b], []⟩
      | _, _, _, _ => .no
     | none => gw (evLoad P hp t (.ptr b o))
    | _, _ => .no
   | false => gw (evLoad P hp t (.ptr b o))
  | _ => .no
 | .eptr b base rel => match hp[b]? with
  | some (some blk) => match c7 blk.1 && dQ blk.2 with
   | true => match P.underlying t, da P t, da P blk.2 with
    | some d, some s, some es => match vw blk.2 (flat blk.1) (base / es) with
     | some v => match v.length == es, jA d, (v.drop rel).take s with
      | true, true, u => match u.length == s, iJ u with
       | true, true => .one [((flat blk.1).drop base).take es = v] ⟨.agg u, hp, [b], []⟩
       | _, _ => .no
      | true, false, c :: _ => match c.isO with
       | false => .one [((flat blk.1).drop base).take es = v] ⟨c, hp, [b], []⟩
       | true => .no
      | _, _, _ => .no
     | none => gw (evLoad P hp t (.eptr b base rel))
    | _, _, _ => .no
   | false => gw (evLoad P hp t (.eptr b base rel))
  | _ => .no
 | x => gw (evLoad P hp t x)
def sStoreAt (P : Program) (hp : Hp) (t : TypeId) (x : V) (b o : Nat) (y : V) : SO :=
 match hp[b]? with
  | some (some blk) => match c7 blk.1 && dQ blk.2 with
   | true => match da P t with
    | some s => match y.flat, decide ((cellsV y).length = s), (cellsV y).all V.one, V.refsL blk.1 with
     | true, true, true, [] => .one [o + s <= (flat blk.1).length] ⟨.b9, hp.set b (some (mkS (hasO blk.1) ((flat blk.1).take o) :: (cellsV y ++ [mkS (hasO blk.1) ((flat blk.1).drop (o + s))]), blk.2)), [b], [b]⟩
     | _, _, _, _ => .no
    | none => .no
   | false => gw (evStore P hp t x y)
  | _ => .no
def EH (P : Program) (hp : Hp) (t : TypeId) (x y : V) : SO :=
 match x with
 | .ptr b o => sStoreAt P hp t (.ptr b o) b o y
 | .eptr b base rel => offs base rel fun o => sStoreAt P hp t (.eptr b base rel) b o y
 | x => gw (evStore P hp t x y)
noncomputable def evOpS (P : Program) (vw : Vw) (e : Operand -> V) (hp : Hp) : Op -> SO
 | .indexAddr t x i => sIndexAddr P vw hp t (e x) (e i)
 | .index t x i => sIndex P hp t (e x) (e i)
 | .slice t x lo hi mx => sSlice P hp t (e x) (lo.map e) (hi.map e) (mx.map e)
 | .binOp op t x y _ => sBin P hp op t (e x) (e y)
 | .convert s d x => sConv P hp s d (e x)
 | .makeSlice t l c => sMake P hp t (e l) (e c)
 | .load t x => sLoad P vw hp t (e x)
 | .store t x y => EH P hp t (e x) (e y)
 | .pick c a b => match e c with
  | .bool t => .two t [] ⟨e a, hp, [], []⟩ [] ⟨e b, hp, [], []⟩
  | _ => .no
 | .call c => match c.callee, c.args.toList, c.argTypes.toList with
  | .builtin .append, [s, x], [t, t'] => sAppend P hp t t' (e s) (e x)
  | _, _, _ => gw (evPlain P e hp (.call c))
 | op => gw (evPlain P e hp op)
def sCopy (P : Program) (hp : Hp) (t : TypeId) (s x : V) : SO :=
 match P.underlying t with
 | some (.slice elem) =>
  match P.info? elem, s with
  | some i, .sl b off n _ =>
   match hp[b]?, srcV hp i.size x with
   | some (some blk), some (bs, m, news) =>
    match decide (0 < m /\ 0 < i.size), spliceV blk.1 off (m * i.size) (flat news) with
    | true, some l => .one [m <= n, off + m * i.size <= (flat blk.1).length] ⟨.int .i64 m, hp.set b (some (l, blk.2)), b :: bs, [b]⟩
    | _, _ => .no
   | _, _ => .no
  | _, _ => .no
 | _ => .no
def sArr (P : Program) (hp : Hp) (t : TypeId) (x i : V) : SO :=
 match P.underlying t, x, i with
 | some (.array n el), .ptr b off, .int _ i => match da P el with
  | some s => .one [0 <= i /\ i < n] ⟨.ptr b (off + i.toNat * s), hp, [], []⟩
  | none => .no
 | _, _, _ => .no
def sMore (P : Program) (e : Operand -> V) (hp : Hp) : Op -> SO
 | .indexAddr t x i => sArr P hp t (e x) (e i)
 | .call c => match c.callee, c.args.toList, c.argTypes.toList with
  | .builtin .copy, [s, x], [t, _] => sCopy P hp t (e s) (e x)
  | _, _, _ => gw (evMore P e hp (.call c))
 | op => gw (evMore P e hp op)
section
variable {P : Program} {vw : Vw} {hp : Hp}
theorem take_len {α : Type} {cs v : List α} {k : Nat} (h : (cs.drop k).take v.length = v) : cs.drop k = v ++ cs.drop (k + v.length) := by
 conv => lhs; rw [<- List.take_append_drop v.length (cs.drop k)]
 rw [h, List.drop_drop]
theorem kA {x : Option V} {d mI : Nat} {ps : List Prop} {k : Nat} (h : sBound x d mI = some (ps, k)) (ha : All ps) : evBound x d mI = some k := by
 unfold sBound at h
 split at h
 ·cases h; rfl
 ·cases h
  simp only [evBound]
  rw [if_pos ha.1]
 ·cases h
theorem ZN {e : Operand -> V} {t : TypeId} {x i : Operand} : (sIndexAddr P vw hp t (e x) (e i)).OK (evPlain P e hp (.indexAddr t x i)) := by
 generalize h : sIndexAddr P vw hp t (e x) (e i) = so
 unfold sIndexAddr at h
 split at h
 ·rename_i n full cs kk k el hx hi hu
  split at h
  ·rename_i s v hs hv
   subst h; intro ha
   simp only [evPlain, hx, hi, hu, hs]
   rw [if_pos ha.1, take_len ha.2.1]
  ·rename_i s hs hv
   subst h; intro ha
   simp only [evPlain, hx, hi, hu, hs]
   rw [if_pos ha.1]
  ·subst h; trivial
 ·rename_i b off n full kk k el hx hi hu
  split at h
  ·rename_i s hs
   subst h; intro ha
   simp only [evPlain, hx, hi, hu, hs]
   rw [if_pos ha.1]
  ·subst h; trivial
 ·subst h; trivial
theorem ZO {e : Operand -> V} {t : TypeId} {x i : Operand} : (sIndex P hp t (e x) (e i)).OK (evPlain P e hp (.index t x i)) := by
 generalize h : sIndex P hp t (e x) (e i) = so
 unfold sIndex at h
 split at h
 ·rename_i l kk k hx hi hu
  subst h; intro ha
  obtain ⟨⟨h1, h2⟩, _⟩ := ha
  simp only [evPlain, hx, hi, evIndex, hu]
  rw [if_pos h1, List.getElem?_eq_getElem af]
  simp only [Option.map_some]
  rw [List.getD_eq_getElem?_getD, List.getElem?_eq_getElem af]
  rfl
 ·subst h; trivial
theorem ZS {t : TypeId} {x : V} {lo hi mx : Option V} : (sSlice P hp t x lo hi mx).OK (evSlice P hp t x lo hi mx) := by
 generalize h : sSlice P hp t x lo hi mx = so
 unfold sSlice at h
 split at h
 ·split at h
  ·rename_i hu hh
   split at h
   ·rename_i hk
    subst h; intro ha
    obtain ⟨h1, h2⟩ := All.append ha
    simp only [evSlice, hu, kA hh h1, kA hk h2]
   ·subst h; trivial
  ·subst h; trivial
 ·split at h
  ·rename_i hu hh
   split at h
   ·rename_i hk hs
    subst h; intro ha
    obtain ⟨h1, h2⟩ := All.append ha
    simp only [evSlice, hu, kA hh h1, kA hk h2, hs]
   ·subst h; trivial
  ·subst h; trivial
 ·split at h
  ·rename_i hu hh hb
   split at h
   ·rename_i hk hs he
    split at h
    ·subst h; intro ha
     obtain ⟨h1, h2⟩ := All.append ha
     simp only [evSlice, hu, kA hh h1, kA hk h2, hs, hb, he]
    ·subst h; refine ⟨fun hc ha => ?_, fun hc ha => ?_⟩
     ·obtain ⟨h1, h2⟩ := All.append ha
      simp only [evSlice, hu, kA hh h1, kA hk h2, hs, hb, he]
      rw [if_pos (by simpa using hc)]
     ·obtain ⟨h1, h2⟩ := All.append ha
      simp only [evSlice, hu, kA hh h1, kA hk h2, hs, hb, he]
      rw [if_neg (by simpa using hc)]
   ·subst h; trivial
  ·subst h; trivial
 ·split at h
  ·rename_i hu hm
   split at h
   ·rename_i hh
    split at h
    ·rename_i hk hs
     subst h; intro ha
     obtain ⟨vc, h3⟩ := All.append ha
     obtain ⟨h1, h2⟩ := All.append vc
     simp only [evSlice, hu, kA hm h1, kA hh h2, kA hk h3, hs]
    ·subst h; trivial
   ·subst h; trivial
  ·subst h; trivial
 ·subst h; exact iK _
theorem yA (c : List V) : flat [.aJ c] = c := by simp [flat]
theorem EG {size : Nat} {x : V} {ps : List Prop} {bs : List Nat} {m : Nat} {news : List V} (h : sSrc hp size x = some (ps, bs, m, news)) (ha : All ps) : srcV hp size x = some (bs, m, news) := by
 unfold sSrc at h
 split at h
 ·cases h
  obtain ⟨h1, h2, _⟩ := ha
  have e : ∀ cs : List V, cs.length = m * size -> cs.take (m * size) = cs := fun cs h => List.take_of_length_le af
  simp only [srcV]
  rw [e _ h1, if_pos ⟨h1, h2⟩]
 ·rename_i b off m' full
  split at h
  ·rename_i blk hb
   split at h
   ·cases h
    obtain ⟨h1, h2, h3, _⟩ := ha
    subst h1
    unfold srcV
    have e : ((flat blk.1).drop 0).take (m * size) = flat blk.1 := by rw [List.drop_zero, List.take_of_length_le af]
    simp only [hb]
    rw [e, if_pos ⟨h2, h3⟩]
    unfold fl
    rw [if_pos ⟨rfl, h2⟩]
   ·split at h
    ·rename_i hs; cases h; exact hs
    ·cases h
  ·cases h
 ·cases h
theorem ZK {t t' : TypeId} {s x : V} : (sAppend P hp t t' s x).OK (evAppend P hp t t' s x) := by
 generalize h : sAppend P hp t t' s x = so
 unfold sAppend at h
 split at h
 ·rename_i elem hu
  split at h
  ·rename_i i hi
   split at h
   ·rename_i z hz ht
    split at h
    ·rename_i ps bs m news hc hs
     have cF := of_decide_eq_true hc
     split at h
     ·rename_i b off n full
      split at h
      ·rename_i blk hb
       split at h
       ·rename_i he
        subst h; intro ha
        obtain ⟨h1, h2⟩ := All.append ha
        obtain ⟨h3, h4, h5, h6, _⟩ := h2
        subst h3
        unfold evAppend
        simp only [hu, hi, hz, ht, EG hs h1, hb]
        have e : ((flat blk.1).drop 0).take (n * i.size) = flat blk.1 := by rw [List.drop_zero, List.take_of_length_le af]
        rw [if_pos cF, e, if_pos ⟨h4, h5, h6, eq_of_beq he, bn⟩]
        unfold fl
        rw [if_pos ⟨rfl, h4⟩]
       ·subst h; trivial
      ·subst h; trivial
     ·rename_i n full cs
      subst h; refine ⟨fun hm ha => ?_, fun hm ha => ?_⟩
      ·have hm' : m = 0 := by simpa using hm
       subst hm'
       unfold evAppend
       simp only [hu, hi, hz, ht, EG hs ha]
       rw [if_pos cF]
      ·obtain ⟨h1, h2⟩ := All.append ha
       obtain ⟨h3, h4, h5, h6, _⟩ := h2
       have hm' : m ≠ 0 := by simpa using hm
       obtain ⟨m', rfl⟩ := Nat.exists_eq_succ_of_ne_zero hm'
       unfold evAppend
       simp only [hu, hi, hz, ht, EG hs h1]
       have e : cs.take (n * i.size) = cs := List.take_of_length_le af
       rw [if_pos cF, e, if_pos ⟨h3, h4, h5, h6⟩]
     ·subst h; trivial
    ·subst h; trivial
   ·subst h; trivial
  ·subst h; trivial
 ·subst h; trivial
theorem EF {xs ys : List V} : ∀ {fs : List Field} {r : Bool}, sEqs P xs ys fs = some r -> flatEqs P xs ys fs = some r
 | [], _, h => h
 | f :: fs, r, h => by
  unfold sEqs at h
  split at h
  ·rename_i x y hn hx hy
   split at h
   ·rename_i a b ha hb
    cases h
    unfold flatEqs
    have Sv : f.name ≠ "_" := by simpa using hn
    rw [if_neg Sv, hx, hy]
    simp only [ha]
    cases a with
    | true => simpa using EF hb
    | false => rfl
   ·cases h
  ·cases h
theorem ZL {op : BinOp} {t : TypeId} {x y : V} : (sBin P hp op t x y).OK ((evBin P op t x y).map fun v => ⟨v, hp, [], []⟩) := by
 generalize h : sBin P hp op t x y = so
 unfold sBin at h
 split at h
 ·split at h
  ·subst h; intro ha
   simp only [evBin, evStr]
   rw [if_pos ha.1]; rfl
  ·subst h; exact iK _
 ·split at h
  ·split at h
   ·rename_i hk
    have dD := of_decide_eq_true hk
    subst h; intro ha
    simp only [evBin, evInt]
    rw [if_pos dD, if_neg ha.1]; rfl
   ·subst h; trivial
  ·split at h
   ·rename_i hk
    have dD := of_decide_eq_true hk
    subst h; intro ha
    simp only [evBin, evInt]
    rw [if_pos dD, if_neg ha.1]; rfl
   ·subst h; trivial
  ·subst h; exact iK _
 ·split at h
  ·rename_i fs hu h1 h2
   split at h
   ·rename_i r hr
    subst h; intro _
    simp only [evBin, hu, h1, h2, EF hr, Option.map_some]
   ·subst h; trivial
  ·rename_i fs hu h1 h2
   split at h
   ·rename_i r hr
    subst h; intro _
    simp only [evBin, hu, h1, h2, EF hr, Option.map_some]
   ·subst h; trivial
  ·subst h; trivial
 ·subst h; exact iK _
theorem Bz : ∀ l : List UInt8, bytesV (gE l) = some l
 | [] => rfl
 | b :: l => by
  have ih := Bz l
  simp only [gE, List.map_cons, bytesV] at ih ⊢
  rw [if_pos ⟨af, by have := b.toNat_lt; omega⟩, ih]
  simp
theorem By : ∀ {l : List V} {ps : List Prop} {bs : List UInt8}, bytesSeg l = some (ps, bs) -> All ps -> flat l = gE bs
 | [], _, _, h, _ => by cases h; rfl
 | x :: t, _, _, h, ha => by
  unfold bytesSeg at h
  split at h
  ·rename_i c ps l ht
   cases h
   rw [Qy, By ht ha.2]
   have := ha.1
   rw [show gE (ae aR c ++ l) = gE (ae aR c) ++ gE l by simp [gE], <- this]
  ·rename_i n ps l ht
   cases h
   rw [eW rfl, By ht ha.2]
   obtain ⟨h0, h1⟩ := ha.1
   have e : ((UInt8.ofNat n.toNat).toNat : Int) = n := by
    rw [UInt8.toNat_ofNat']; omega
   simp only [gE, List.map_cons, e]
  ·cases h
theorem ZM {s d : TypeId} {x : V} : (sConv P hp s d x).OK (evConv P hp s d x) := by
 generalize h : sConv P hp s d x = so
 unfold sConv at h
 split at h
 ·rename_i n full cs
  split at h
  ·rename_i e hs hd
   split at h
   ·rename_i he
    subst h; intro ha
    obtain ⟨h1, h2, _⟩ := ha
    simp only [evConv, hs, hd, he]
    generalize hl : ae aR cs = l at h1 h2
    subst h1
    have hlen : (gE l).length = n := by simpa [gE] using h2
    have e1 : (gE l).take n = gE l := List.take_of_length_le af
    rw [e1, if_pos hlen, Bz]
   ·subst h; trivial
  ·subst h; trivial
 ·rename_i b off n full
  split at h
  ·rename_i e hs hd
   split at h
   ·rename_i blk he hb
    split at h
    ·rename_i ps l hl
     subst h; intro ha
     obtain ⟨h0, h1, h2, _⟩ := All.append ha
     subst h1
     have hf := By hl h0
     simp only [evConv, hs, hd, he, hb]
     have hlen : (gE l).length = n := by simpa [gE] using h2
     rw [hf, List.drop_zero]
     have e1 : (gE l).take n = gE l := List.take_of_length_le af
     rw [e1, if_pos hlen, Bz]
    ·subst h; trivial
   ·subst h; trivial
  ·subst h; trivial
 ·rename_i l
  split at h
  ·rename_i e hs hd
   split at h
   ·rename_i i he hi
    split at h
    ·rename_i hz
     subst h; intro ha
     simp only [evConv, hs, hd, he, hi]
     rw [if_pos ⟨ha.1, of_decide_eq_true hz⟩]
     rfl
    ·subst h; trivial
   ·subst h; trivial
  ·subst h; exact iK _
 ·subst h; exact iK _
theorem ZQ {t : TypeId} {l c : V} : (sMake P hp t l c).OK (evMakeSlice P hp t l c) := by
 generalize h : sMake P hp t l c = so
 unfold sMake at h
 split at h
 ·split at h
  ·rename_i elem hu
   split at h
   ·rename_i i hi
    split at h
    ·rename_i z hz
     split at h
     ·rename_i hc
      have cF := of_decide_eq_true hc
      subst h; intro ha
      obtain ⟨⟨h1, h2, h3⟩, _⟩ := ha
      simp only [evMakeSlice, hu, hi, hz]
      rw [if_pos ⟨h1, h2, h3, cF⟩]
     ·subst h; trivial
    ·subst h; trivial
   ·subst h; trivial
  ·subst h; trivial
 ·subst h; trivial
theorem ag4 {α : Type} {l v : List α} {base rel es : Nat} (h : (l.drop base).take es = v) (hl : v.length = es) (s : Nat) (hs : rel + s <= es) : (l.drop (base + rel)).take s = (v.drop rel).take s := by
 subst h
 rw [List.drop_take, List.take_take, List.drop_drop, Nat.min_eq_left af]
theorem ZP {t : TypeId} {x : V} : (sLoad P vw hp t x).OK (evLoad P hp t x) := by
 generalize h : sLoad P vw hp t x = so
 unfold sLoad at h
 split at h
 ·rename_i b o
  split at h
  ·rename_i blk hb
   split at h
   ·rename_i kR
    rw [Bool.and_eq_true] at kR
    have hT := kR.2
    have vf : Nat.beq blk.2 kV = false := by simpa [dQ] using hT
    split at h
    ·rename_i d s hu hs
     split at h
     ·rename_i v hv
      split at h
      ·rename_i hl hr hn
       subst h; intro ha
       obtain ⟨h1, _⟩ := ha
       simp only [evLoad, V.asPtr, hb, hu, hs, hl]
       rw [h1, hn, Bool.or_true, hT, if_pos ⟨by simpa using hr, rfl⟩]
      ·rename_i c hl hr hn
       subst h; intro ha
       obtain ⟨h1, _⟩ := ha
       have gX : 1 = s := by simpa using hr
       subst gX
       simp only [evLoad, V.asPtr, hb, hu, hs, hl]
       have : (flat blk.1)[o]? = some c := by
        have h2 : (((flat blk.1).drop o).take 1)[0]? = some c := by rw [h1]; rfl
        rw [List.getElem?_take, if_pos af, List.getElem?_drop] at h2
        simpa using h2
       rw [this]
       have hc : c.isO = false := by simpa [iJ] using hn
       simp only [hc, vf, Bool.or_self]
      ·subst h; trivial
     ·subst h; exact iK _
    ·subst h; trivial
   ·subst h; exact iK _
  ·subst h; trivial
 ·rename_i b base rel
  split at h
  ·rename_i blk hb
   split at h
   ·rename_i kR
    rw [Bool.and_eq_true] at kR
    have hT := kR.2
    have vf : Nat.beq blk.2 kV = false := by simpa [dQ] using hT
    split at h
    ·rename_i d s es hu hs RW
     split at h
     ·rename_i v hv
      split at h
      ·rename_i hl hd
       split at h
       ·rename_i hr hn
        subst h; intro ha
        obtain ⟨h1, _⟩ := ha
        have gX : v.length = es := by simpa using hl
        have yZ : ((v.drop rel).take s).length = s := by simpa using hr
        simp only [evLoad, V.asPtr, nM, hb, hu, hs, hd]
        cases s with
        | zero =>
         simp only [List.take_zero, List.length_nil, true_and]
         rw [if_pos (by simp [iJ, hT])]
        | succ s =>
         have hle : rel + (s + 1) <= es := by
          simp only [List.length_take, List.length_drop] at yZ; omega
         rw [ag4 h1 gX (s + 1) hle, hn, Bool.or_true, hT, if_pos ⟨yZ, rfl⟩]
       ·subst h; trivial
      ·rename_i c rest hl hd mG
       split at h
       ·rename_i hc
        subst h; intro ha
        obtain ⟨h1, _⟩ := ha
        have gX : v.length = es := by simpa using hl
        simp only [evLoad, V.asPtr, nM, hb, hu, hs, hd]
        have hlen := congrArg List.length mG
        simp only [List.length_take, List.length_drop, List.length_cons] at hlen
        have h3 : (v.drop rel)[0]? = some c := by
         have h4 : ((v.drop rel).take s)[0]? = some c := by rw [mG]; rfl
         rw [List.getElem?_take] at h4
         split at h4
         ·exact h4
         ·cases h4
        have : (flat blk.1)[base + rel]? = some c := by
         subst h1
         rw [List.getElem?_drop, List.getElem?_take] at h3
         split at h3
         ·rw [List.getElem?_drop] at h3; simpa using h3
         ·cases h3
        rw [this]
        simp only [hc, vf, Bool.or_self]
       ·subst h; trivial
      ·subst h; trivial
     ·subst h; exact iK _
    ·subst h; trivial
   ·subst h; exact iK _
  ·subst h; trivial
 ·subst h; exact iK _
theorem Mo {t : TypeId} {x : V} {b o : Nat} {y : V} (hx : x.asPtr = .ptr b o) : (sStoreAt P hp t x b o y).OK (evStore P hp t x y) := by
 generalize h : sStoreAt P hp t x b o y = so
 unfold sStoreAt at h
 split at h
 ·rename_i blk hb
  split at h
  ·rename_i kR
   split at h
   ·rename_i s hs
    split at h
    ·rename_i h1 h2 h3 h4
     subst h; intro ha
     obtain ⟨h5, _⟩ := ha
     simp only [evStore, hx, hb, hs]
     rw [Bool.and_eq_true] at kR
     rw [if_pos ⟨h1, of_decide_eq_true h2, h3, h5, kR.2⟩]
     simp only [spliceV, kR.1, h4]
    ·subst h; trivial
   ·subst h; trivial
  ·subst h; exact iK _
 ·subst h; trivial
theorem ZT {t : TypeId} {x y : V} : (EH P hp t x y).OK (evStore P hp t x y) := by
 unfold EH
 split
 ·exact Mo rfl
 ·rw [nM]; exact Mo (by simp only [V.asPtr, nM])
 ·exact iK _
theorem XE {e : Operand -> V} (op : Op) : (evOpS P vw e hp op).OK (evPlain P e hp op) := by
 unfold evOpS
 split
 ·exact ZN
 ·exact ZO
 ·exact ZS
 ·exact ZL
 ·exact ZM
 ·exact ZQ
 ·exact ZP
 ·exact ZT
 ·rename_i c a b
  cases hc : e c with
  | bool t => exact ⟨fun h _ => by simp only [evPlain, hc, h]; rfl, fun h _ => by simp only [evPlain, hc, h]; rfl⟩
  | _ => trivial
 ·rename_i c
  generalize h : (match c.callee, c.args.toList, c.argTypes.toList with
   | .builtin .append, [s, x], [t, t'] => sAppend P hp t t' (e s) (e x)
   | _, _, _ => gw (evPlain P e hp (.call c))) = so
  split at h
  ·rename_i s x t t' h1 h2 h3
   subst h
   simp only [evPlain, h1, h2, h3]
   exact ZK
  ·subst h; exact iK _
 ·exact iK _
theorem ZR {e : Operand -> V} (op : Op) : (sMore P e hp op).OK (evMore P e hp op) := by
 unfold sMore
 split
 ·rename_i t x i
  generalize h : sArr P hp t (e x) (e i) = so
  unfold sArr at h
  split at h
  ·rename_i n el b off kk k hu hx hi
   split at h
   ·rename_i s hs
    subst h; intro ha
    simp only [evMore, hx, hi, hu, hs]
    rw [if_pos ha.1]
   ·subst h; trivial
  ·subst h; trivial
 ·rename_i c
  generalize h : (match c.callee, c.args.toList, c.argTypes.toList with
   | .builtin .copy, [s, x], [t, _] => sCopy P hp t (e s) (e x)
   | _, _, _ => gw (evMore P e hp (.call c))) = so
  split at h
  ·rename_i s x t t' h1 h2 h3
   simp only [evMore, h1, h2, h3]
   unfold sCopy at h
   split at h
   ·rename_i elem hu
    split at h
    ·rename_i i b off n full hi hs
     split at h
     ·rename_i blk bs m news hb lL
      split at h
      ·rename_i l hd kS
       subst h; intro ha
       obtain ⟨h4, h5⟩ := of_decide_eq_true hd
       simp only [evCopy, hu, hi, hs, hb, lL]
       rw [if_pos ⟨h4, h5, ha.1, ha.2.1⟩]
       simp only [kS]
      ·subst h; trivial
     ·subst h; trivial
    ·subst h; trivial
   ·subst h; trivial
  ·subst h; exact iK _
 ·exact iK _
end
end Go.Proofs.YtlomaojlpodibaaGreat
namespace Go.Proofs.YtlomaojlpodibaaGreat
open Go.RowKit
set_option maxRecDepth 100000
def accV (P : Program) (vw : Vw) (hp : Hp) (x : V) : Option (List Prop × Hp × Nat × Nat × Bool) :=
 match x with
 | .ptr b off => match hp[b]? with
  | some (some blk) => match c7 blk.1 with
   | false => some ([], hp, b, off, false)
   | true => none
  | _ => none
 | .eptr b base rel => match hp[b]? with
  | some (some blk) => match blk.1 with
   | [] => none
   | p :: t => match p.seals with
    | none => match c7 (p :: t) with
     | false => offs base rel fun o => some ([], hp, b, o, false)
     | true => none
    | some (o, A) => match t with
     | [] => match da P blk.2 with
      | some es => match vw blk.2 A (base / es) with
       | some v => match v.length == es && Nat.ble rel es && dQ blk.2, c7 v with
        | true, false => some ([(A.drop base).take es = v, base + es <= A.length], hp.set b (some ([mkS o (A.take base)] ++ v ++ [mkS o (A.drop (base + es))], blk.2)), b, 1 + rel, true)
        | _, _ => none
       | none => none
      | none => none
     | _ :: _ => match (t.take rel).length == rel, c7 (t.take rel) with
      | true, false => some ([A.length = base], hp, b, 1 + rel, false)
      | _, _ => none
  | _ => none
 | _ => none
def openN (b : Nat) : Nat -> Nat -> Hp -> Hp
 | 0, _, hp => hp
 | k + 1, j, hp => match hp[b]? with
  | some (some blk) => match blk.1[j]? with
   | some (.osl E n o cs) => openN b k (j + 1) (hp.set b (some (blk.1.take j ++ .sl hp.length 0 n false :: blk.1.drop (j + 1), blk.2)) ++ [some ([mkS o cs], E)])
   | _ => openN b k (j + 1) hp
  | _ => hp
def dLoad (P : Program) (vw : Vw) (hp : Hp) (t : TypeId) (x : V) : SO :=
 match accV P vw hp x, da P t, P.underlying t with
 | some (ps, bm, b, idx, sh), some s, some d =>
  match bm[b]? with
  | some (some blk) =>
   let l := (blk.1.drop idx).take s
   match l.length == s && (blk.1.take idx).length == idx && dQ blk.2, c7 l, iJ l with
   | true, false, true => match sh, c7 blk.1, jA d, l with
    | false, true, true, l => .one ps ⟨.agg l, hp, [b], []⟩
    | false, true, false, [c] => .one ps ⟨c, hp, [b], []⟩
    | _, _, _, _ => .no
   | true, false, false => match (openN b s idx bm)[b]? with
    | some (some iR) =>
     let l2 := (iR.1.drop idx).take s
     match l2.length == s && (iR.1.take idx).length == idx && dQ iR.2, c7 l2, iJ l2 with
     | true, false, true => match jA d, l2 with
      | true, l2 => .one ps ⟨.agg l2, openN b s idx bm, [b], [b]⟩
      | false, [c] => .one ps ⟨c, openN b s idx bm, [b], [b]⟩
      | _, _ => .no
     | _, _, _ => .no
    | _ => .no
   | _, _, _ => .no
  | _ => .no
 | _, _, _ => .no
def dStore (P : Program) (vw : Vw) (hp : Hp) (t : TypeId) (x y : V) : SO :=
 match accV P vw hp x, da P t with
 | some (ps, bm, b, idx, _), some s =>
  match bm[b]? with
  | some (some blk) => match c7 blk.1 with
   | true =>
    let l := (blk.1.drop idx).take s
    match l.length == s && (blk.1.take idx).length == idx && y.flat && (cellsV y).length == s && (cellsV y).all V.one && dQ blk.2, c7 l with
    | true, false => .one ps ⟨.b9, bm.set b (some (blk.1.take idx ++ cellsV y ++ blk.1.drop (idx + s), blk.2)), [b], [b]⟩
    | _, _ => .no
   | false => .no
  | _ => .no
 | _, _ => .no
def dClear (P : Program) (hp : Hp) (t : TypeId) (x : V) : SO :=
 match P.underlying t with
 | some (.slice elem) => match x with
  | .sl b off n _ => match P.info? elem, hp[b]? with
   | some i, some (some ([.aJ c], T)) => match i.zero with
    | some z => match decide (T = elem /\ 0 < i.size /\ z.cells.size = i.size), (z.cells.toList.map ofScalar).all V.one with
     | true, true => .one [0 < n, off + n * i.size <= c.length] ⟨.tup [], hp.set b (some ([.aJ (c.take off)], T)), [b], [b]⟩
     | _, _ => .no
    | none => .no
   | _, _ => .no
  | _ => .no
 | _ => .no
def dOp (P : Program) (vw : Vw) (e : Operand -> V) (hp : Hp) : Op -> SO
 | .load t x => dLoad P vw hp t (e x)
 | .store t x y => dStore P vw hp t (e x) (e y)
 | .call c => match c.callee, c.args.toList, c.argTypes.toList with
  | .builtin .clear, [x], [t] => dClear P hp t (e x)
  | _, _, _ => .no
 | _ => .no
section
variable {P : Program} {vw : Vw} {hp bm : Hp} {bs : List Nat}
theorem Yt (hn : dA P) {e : Operand -> V} {op : Op} {out : Out} (h : evPlain P e hp op = some out) : fH P e hp op out :=
 uU (callF := fun _ _ _ => none) hn (fun _ _ _ _ h => by cases h) (fun _ _ _ _ h => by cases h) (by
  unfold evOp
  split
  ·simp [evPlain] at h
  ·simp [evPlain] at h
  ·rw [h])
theorem Tidy.sub {acc wr acc' wr' : List Nat} (t : Tidy hp bm acc wr) (ha : ∀ b, b ∈ acc ↔ b ∈ acc') (hw : ∀ b, b ∈ wr ↔ b ∈ wr') : Tidy hp bm acc' wr' :=
 ⟨t.len, fun b h1 h2 => t.frame b h1 fun h => h2 ((hw b).1 h), fun b h => (ha b).1 (t.j8 b ((hw b).2 h)), fun b h => t.iu b ((ha b).2 h), fun b h => t.j7 b ((hw b).2 h)⟩
theorem Good.sub {I I' : Nat -> Prop} {μ μ' : Mu} {w w' : World} {acc wr acc' wr' : List Nat} (G : Good P I I' μ μ' w w' hp bm acc wr) (ha : ∀ b, b ∈ acc ↔ b ∈ acc') (hw : ∀ b, b ∈ wr ↔ b ∈ wr') : Good P I I' μ μ' w w' hp bm acc' wr' :=
 ⟨G.dq, fun k hk => by
   rcases G.ei k hk with h | h | ⟨c, h1, h2⟩
   ·exact .inl h
   ·exact .inr (.inl h)
   ·exact .inr (.inr ⟨c, (hw c).1 h1, h2⟩),
  G.cr.mono fun k ⟨b, h1, h2⟩ => ⟨b, (hw b).1 h1, h2⟩, G.le, G.cz, fun b h1 h2 => G.cT b (fun h => h1 ((hw b).1 h)) h2, fun b hb => G.holds b (hb.imp (ha b).2 id), fun b hb blk bu g hg => by
   rcases G.dI b (hb.imp id (hw b).2) blk bu g hg with h | ⟨c, h1, h2⟩
   ·exact .inl h
   ·exact .inr ⟨c, (hw c).1 h1, h2⟩,
  fun b c b1 b2 g bp hb hc => G.inj b c b1 b2 g bp (hb.imp (ha b).2 id) (hc.imp (ha c).2 id)⟩
theorem fH.sub {e : Operand -> V} {op : Op} {out : Out} {acc wr : List Nat} (h : fH P e hp op out) (ha : ∀ b, b ∈ out.acc ↔ b ∈ acc) (hw : ∀ b, b ∈ out.wr ↔ b ∈ wr) : fH P e hp op ⟨out.v, out.hp, acc, wr⟩ := by
 refine ⟨h.tidy.sub ha hw, fun ho bR pre hK => h.wp ho bR ⟨pre.dj, fun b hb => pre.holds b ((ha b).1 hb), fun b hb c hc => pre.inj b ((ha b).1 hb) c ((ha c).1 hc), pre.fresh⟩ fun val w' μ' I' hR G => hK val w' μ' I' hR (G.sub ha hw)⟩
theorem eK.sub {Gu : List Nat} (h : eK P hp bm bs) (hb : ∀ b, b ∈ bs ↔ b ∈ Gu) : eK P hp bm Gu :=
 ⟨h.tidy.sub hb hb, fun pre hs => by
  obtain ⟨μ1, G⟩ := h.run pre fun b bX => hs b ((hb b).1 bX)
  exact ⟨μ1, G.sub (fun _ => Iff.rfl) hb⟩⟩
theorem eK.none {b : Nat} {blk : bM} (hb : hp[b]? = some (some blk)) : eK P hp hp [b] := by
 have := v7 (P := P) (l := blk.1) (l' := blk.1) (T := blk.2) hb (.inr fun _ e => e) rfl fun h => ⟨_, .refl _, h⟩
 have e : hp.set b (some (blk.1, blk.2)) = hp := by
  apply List.ext_getElem?
  intro j
  rw [List.getElem?_set]
  split
  ·rename_i e
   subst e
   rw [hb, if_pos (List.getElem?_eq_some_iff.1 hb).1]
  ·rfl
 rwa [e] at this
theorem Ed (b : Nat) : ∀ (k j : Nat) {hp : Hp} {blk : bM}, hp[b]? = some (some blk) -> eK P hp (openN b k j hp) [b] /\ ∃ l, (openN b k j hp)[b]? = some (some (l, blk.2)) /\ l.take j = blk.1.take j /\ (flat (l.take j)).length = (flat (blk.1.take j)).length
 | 0, j, hp, blk, hb => ⟨.none hb, blk.1, hb, rfl, rfl⟩
 | k + 1, j, hp, blk, hb => by
  have bI := (List.getElem?_eq_some_iff.1 hb).1
  unfold openN
  simp only [hb]
  split
  ·rename_i E n o cs hj
   have fW := (List.getElem?_eq_some_iff.1 hj).1
   have qU : blk.1 = blk.1.take j ++ .osl E n o cs :: blk.1.drop (j + 1) := by
    conv => lhs; rw [<- List.take_append_drop j blk.1]
    rw [List.drop_eq_getElem_cons fW]
    have CW : blk.1[j] = .osl E n o cs := by rw [List.getElem?_eq_getElem fW] at hj; exact Option.some.inj hj
    rw [CW]
   have h1 := YI (P := P) (hp := hp) (b := b) (pr := blk.1.take j) (po := blk.1.drop (j + 1)) (E := E) (n := n) (o := o) (cs := cs) (T := blk.2) (by rw [hb, <- qU])
   have gU : (hp.set b (some (blk.1.take j ++ .sl hp.length 0 n false :: blk.1.drop (j + 1), blk.2)) ++ [some ([mkS o cs], E)])[b]? = some (some (blk.1.take j ++ .sl hp.length 0 n false :: blk.1.drop (j + 1), blk.2)) := by
    rw [List.getElem?_append_left (by simpa using bI), List.getElem?_set, if_pos rfl, if_pos bI]
   obtain ⟨h2, l, h3, h4, _⟩ := Ed b k (j + 1) gU
   have e : l.take j = blk.1.take j := by
    have := congrArg (List.take j) h4
    rw [List.take_take, List.take_take, Nat.min_eq_left af] at this
    rw [this, List.take_left' (by rw [List.length_take]; omega)]
   refine ⟨(h1.trans h2).sub fun c => ?_, l, h3, e, by rw [e]⟩
   rw [fb]
   simp only [List.mem_append, List.mem_singleton, or_self]
   constructor
   ·exact fun h => h.1
   ·rintro rfl; exact ⟨rfl, bI⟩
  ·obtain ⟨h2, l, h3, h4, _⟩ := Ed b k (j + 1) hb
   have e : l.take j = blk.1.take j := by
    have := congrArg (List.take j) h4
    rwa [List.take_take, List.take_take, Nat.min_eq_left af] at this
   exact ⟨h2, l, h3, e, by rw [e]⟩
theorem zx : ∀ (l : List V) (n : Nat), c7 l = false -> c7 (l.take n) = false
 | [], n, h => by simpa using h
 | x :: t, 0, h => rfl
 | x :: t, n + 1, h => by
  rcases fu x with ⟨o, c, rfl⟩ | hx
  ·rw [vj] at h; cases h
  ·rw [nr hx] at h
   rw [List.take_succ_cons, nr hx]; exact zx t n h
theorem xW {x : V} {ps : List Prop} {b idx : Nat} {sh : Bool} (h : accV P vw hp x = some (ps, bm, b, idx, sh)) (ha : All ps) : eK P hp bm [b] /\ (sh = false -> bm = hp) /\ ∃ off, x.asPtr = .ptr b off /\ ∀ blk, bm[b]? = some (some blk) -> (blk.1.take idx).length = idx -> (flat (blk.1.take idx)).length = off := by
 unfold accV at h
 split at h
 ·rename_i b' off
  split at h
  ·rename_i blk hb
   split at h
   ·rename_i hs
    cases h
    refine ⟨.none hb, fun _ => rfl, _, rfl, fun bG bX hl => ?_⟩
    rw [hb] at bX; cases bX
    rw [iU (zx _ _ hs), hl]
   ·cases h
  ·cases h
 ·rename_i b' base rel
  split at h
  ·rename_i blk hb
   split at h
   ·cases h
   ·rename_i p t Dh
    split at h
    ·split at h
     ·rename_i hs
      rw [nM] at h
      cases h
      refine ⟨.none hb, fun _ => rfl, base + rel, by simp only [V.asPtr, nM], fun bG bX hl => ?_⟩
      rw [hb] at bX; cases bX
      rw [iU (zx _ _ (by rw [Dh]; exact hs)), hl]
     ·cases h
    ·rename_i o A ez
     have dw : p = mkS o A := by
      rcases fu p with ⟨o', c', rfl⟩ | hx
      ·rw [Mv] at ez; cases ez; rfl
      ·rw [hx] at ez; cases ez
     subst dw
     split at h
     ·split at h
      ·rename_i es RW
       split at h
       ·rename_i v hv
        split at h
        ·rename_i hl hs
         cases h
         obtain ⟨h1, h2, _⟩ := ha
         have bI := (List.getElem?_eq_some_iff.1 hb).1
         refine ⟨YO (b := b) (o := o) (c := A) (T := blk.2) (by rw [hb, <- Dh]) h1 hs h2 (by rw [Bool.and_eq_true] at hl; exact hl.2), fun h => (by cases h), base + rel, by simp only [V.asPtr, nM], fun bG bX gX => ?_⟩
         rw [List.getElem?_set, if_pos rfl, if_pos bI] at bX
         cases bX
         rw [Bool.and_eq_true, Bool.and_eq_true] at hl
         replace hl := hl.1
         have fa : v.length = es := by simpa using hl.1
         have eh : rel <= es := Nat.le_of_ble_eq_true hl.2
         simp only [List.singleton_append, List.cons_append, List.nil_append] at gX ⊢
         rw [Nat.add_comm 1 rel] at gX ⊢
         rw [List.take_succ_cons, gF, List.take_append_of_le_length af, iU (zx _ _ hs), List.length_append, List.length_take, List.length_take]
         omega
        ·cases h
       ·cases h
      ·cases h
     ·split at h
      ·rename_i hl hs
       cases h
       obtain ⟨h1, _⟩ := ha
       refine ⟨.none hb, fun _ => rfl, base + rel, by simp only [V.asPtr, nM], fun bG bX _ => ?_⟩
       rw [hb] at bX; cases bX
       rw [Dh, Nat.add_comm 1 rel, List.take_succ_cons, gF, List.length_append, iU hs, eq_of_beq hl, h1]
      ·cases h
  ·cases h
 ·cases h
theorem GK {l : List V} {idx s off : Nat} (jq : (flat (l.take idx)).length = off) (hs : c7 ((l.drop idx).take s) = false) (hl : ((l.drop idx).take s).length = s) : ((flat l).drop off).take s = (l.drop idx).take s /\ off + s <= (flat l).length := by
 have e : flat l = flat (l.take idx) ++ (((l.drop idx).take s) ++ flat ((l.drop idx).drop s)) := by
  conv => lhs; rw [<- List.take_append_drop idx l, <- List.take_append_drop s (l.drop idx)]
  rw [fK, fK, iU hs]
 constructor
 ·rw [e, List.drop_left' jq, List.take_left' hl]
 ·rw [e, List.length_append, List.length_append, hl, jq]; omega
theorem DO (hn : dA P) {e : Operand -> V} {t : TypeId} {x : Operand} {b idx off s : Nat} {d : TypeDesc} {blk : bM} {v : V} (hx : (e x).asPtr = .ptr b off) (hb : hp[b]? = some (some blk)) (cM : da P t = some s) (hu : P.underlying t = some d)
  (jq : (flat (blk.1.take idx)).length = off) (hs : c7 ((blk.1.drop idx).take s) = false) (hl : ((blk.1.drop idx).take s).length = s) (ho : iJ ((blk.1.drop idx).take s) = true) (hT : dQ blk.2 = true)
  (hv : (jA d = true /\ v = .agg ((blk.1.drop idx).take s)) \/ (jA d = false /\ (blk.1.drop idx).take s = [v])) : fH P e hp (.load t x) ⟨v, hp, [b], []⟩ := by
 obtain ⟨h1, h2⟩ := GK jq hs hl
 refine Yt hn ?_
 simp only [evPlain, evLoad, hx, hb, hu, cM]
 rcases hv with ⟨hd, rfl⟩ | ⟨hd, hv⟩
 ·simp only [hd]
  rw [h1, ho, Bool.or_true, hT, if_pos ⟨hl, rfl⟩]
 ·simp only [hd]
  rw [hv] at h1 hl ho
  have lK : s = 1 := by simpa using hl.symm
  subst lK
  have : (flat blk.1)[off]? = some v := by
   have h3 : (((flat blk.1).drop off).take 1)[0]? = some v := by rw [h1]; rfl
   rw [List.getElem?_take, if_pos af, List.getElem?_drop] at h3
   simpa using h3
  rw [this]
  have hc : v.isO = false := by simpa [iJ] using ho
  have vf : Nat.beq blk.2 kV = false := by simpa [dQ] using hT
  simp only [hc, vf, Bool.or_self]
theorem PJ (hn : dA P) {e : Operand -> V} {t : TypeId} {x : Operand} {ps : List Prop} {out : Out} (h : dLoad P vw hp t (e x) = .one ps out) (ha : All ps) : fH P e hp (.load t x) out := by
 unfold dLoad at h
 split at h
 case h_2 => cases h
 rename_i Ls bm b idx sh s d jm cM hu
 split at h
 case h_2 => cases h
 rename_i blk hb
 simp only at h
 split at h
 ·rename_i hl hs ho
  rw [Bool.and_eq_true, Bool.and_eq_true] at hl
  have IT := hl.2
  replace hl := hl.1
  have fX : ((blk.1.drop idx).take s).length = s := eq_of_beq hl.1
  have dK : (blk.1.take idx).length = idx := eq_of_beq hl.2
  split at h
  ·rename_i l _ hd
   cases h
   obtain ⟨_, h2, off, h3, h4⟩ := xW jm ha
   obtain rfl := h2 rfl
   exact DO hn h3 hb cM hu (h4 blk hb dK) hs fX ho IT (.inl ⟨hd, rfl⟩)
  ·rename_i c _ hd hc
   cases h
   obtain ⟨_, h2, off, h3, h4⟩ := xW jm ha
   obtain rfl := h2 rfl
   exact DO hn h3 hb cM hu (h4 blk hb dK) hs fX ho IT (.inr ⟨hd, hc⟩)
  ·cases h
 ·rename_i hl hs ho
  rw [Bool.and_eq_true, Bool.and_eq_true] at hl
  replace hl := hl.1
  have dK : (blk.1.take idx).length = idx := eq_of_beq hl.2
  split at h
  case h_2 => cases h
  rename_i iR gU
  split at h
  case h_2 => cases h
  rename_i hm SX SF
  rw [Bool.and_eq_true, Bool.and_eq_true] at hm
  have Sp := hm.2
  replace hm := hm.1
  have C5 : ((iR.1.drop idx).take s).length = s := eq_of_beq hm.1
  have go : ∀ v, All Ls -> ((jA d = true /\ v = .agg ((iR.1.drop idx).take s)) \/ (jA d = false /\ (iR.1.drop idx).take s = [v])) -> fH P e hp (.load t x) ⟨v, openN b s idx bm, [b], [b]⟩ := by
   intro v ha hv
   obtain ⟨k1, _, off, k3, k4⟩ := xW jm ha
   obtain ⟨q1, l, q2, q3, q4⟩ := Ed (P := P) b s idx hb
   rw [gU] at q2
   have bI : b < hp.length := k1.tidy.iu b (by simp)
   have hq := DO hn k3 gU cM hu (by
    have : iR.1 = l := by cases q2; rfl
    rw [this, q4]; exact k4 blk hb dK) SX C5 SF Sp hv
   refine (fH.Lr (k1.trans q1) hq).sub (fun c => ?_) fun c => ?_
   ·simp only [fb, List.mem_append, List.mem_singleton, or_self]
    constructor
    ·rintro ⟨h1 | h1, h2⟩
     ·exact h1.1
     ·exact h1
    ·rintro rfl; exact ⟨.inr rfl, bI⟩
   ·simp only [fb, List.mem_append, List.mem_singleton, or_self, List.not_mem_nil, or_false]
    constructor
    ·rintro ⟨h1, h2⟩; exact h1.1
    ·rintro rfl; exact ⟨⟨rfl, bI⟩, bI⟩
  split at h
  ·rename_i hd
   cases h
   exact go _ ha (.inl ⟨hd, rfl⟩)
  ·rename_i c hd hc
   cases h
   exact go _ ha (.inr ⟨hd, hc⟩)
  ·cases h
 ·cases h
theorem CR.put {I : Nat -> Prop} {μ : Mu} {w : World} {F : List Nat} {l new : List V} {idx s off : Nat} {vs nv : List Value} (h : CR P I μ w F l vs) (hn : V.RL P I μ w new nv) (jq : (flat (l.take idx)).length = off) (hs : c7 ((l.drop idx).take s) = false) (hl : ((l.drop idx).take s).length = s) (SE : new.length = s) :
  (flat (l.take idx ++ new ++ l.drop (idx + s))).length = (flat l).length /\ ∃ F', F'.Sublist F /\ CR P I μ w F' (l.take idx ++ new ++ l.drop (idx + s)) (vs.take off ++ nv ++ vs.drop (off + s)) := by
 have e : l = l.take idx ++ ((l.drop idx).take s ++ l.drop (idx + s)) := by
  rw [<- List.drop_drop, List.take_append_drop, List.take_append_drop]
 have ef : (flat l).length = (flat (l.take idx)).length + (s + (flat (l.drop (idx + s))).length) := by
  conv => lhs; rw [e]
  rw [fK, fK, iU hs, List.length_append, List.length_append, hl]
 rw [e] at h
 obtain ⟨F1, F2, us, us', rfl, rfl, h1, h2⟩ := CR.append_iff.1 h
 obtain ⟨F3, F4, u2, u3, rfl, rfl, h3, h4⟩ := CR.append_iff.1 h2
 have l1 := h1.length
 have l3 := h3.length
 rw [jq] at l1
 rw [iU hs, hl] at l3
 constructor
 ·rw [ef, fK, fK, List.length_append, List.length_append, u4 hn, SE]; omega
 ·refine ⟨F1 ++ F4, (List.Sublist.refl F1).append (List.sublist_append_right F3 F4), ?_⟩
  have ed : (us ++ (u2 ++ u3)).drop (off + s) = u3 := by rw [<- List.drop_drop, List.drop_left' l1, List.drop_left' l3]
  rw [List.take_left' l1, ed]
  have := (h1.append (CR.of hn)).append h4
  rwa [List.append_nil] at this
theorem ae3 {e : Operand -> V} {t : TypeId} {x y : Operand} {b idx off s : Nat} {blk : bM} (hx : (e x).asPtr = .ptr b off) (hb : hp[b]? = some (some blk)) (cM : da P t = some s) (hf : (e y).flat = true) (Jl : (cellsV (e y)).length = s) (Tt : (cellsV (e y)).all V.one = true)
  (jq : (flat (blk.1.take idx)).length = off) (hs : c7 ((blk.1.drop idx).take s) = false) (hl : ((blk.1.drop idx).take s).length = s) (hT : dQ blk.2 = true) :
  fH P e hp (.store t x y) ⟨.b9, hp.set b (some (blk.1.take idx ++ cellsV (e y) ++ blk.1.drop (idx + s), blk.2)), [b], [b]⟩ := by
 have bI := (List.getElem?_eq_some_iff.1 hb).1
 have t1 := wa hb (some (blk.1.take idx ++ cellsV (e y) ++ blk.1.drop (idx + s), blk.2)) []
 rw [List.append_nil] at t1
 refine ⟨t1, fun {I μ w oper a K Q} ho bR pre hK => ?_⟩
 have qY := xX (bR x (by simp [Op.operands]))
 have Tv := bR y (by simp [Op.operands])
 rw [hx] at qY
 simp only [V.R] at qY
 obtain ⟨g, hg, Dw⟩ := qY
 obtain ⟨cs, fr, _, hw, dP, ⟨S4, jP⟩, _⟩ := (pre.holds b (by simp) blk hb).real hT hg
 have dL : Row w g blk.2 cs := ⟨fr, hw, dP⟩
 have iD := yy Tv hf
 have fa : (a.eval y).cells.toList.length = s := by rw [iD.length, Jl]
 obtain ⟨_, hle⟩ := GK jq hs hl
 have cG := rL P g off blk.2 (a.eval y).cells.toList 0 cs w dL af (tK iD Tt)
 simp only [Nat.add_zero] at cG
 obtain ⟨dK, F', lC, qK⟩ := CR.put jP iD jq hs hl Jl
 have nG : (Instr.storeAt t (a.eval x) (a.eval y)).run P w = .ok () (w.setRow g (cs.toList.take off ++ (a.eval y).cells.toList ++ cs.toList.drop (off + (a.eval y).cells.toList.length)).toArray) := by
  rw [Dw]
  simp only [Instr.storeAt, Instr.sureAddr, Sem.run_bind, Sem.run_pure, Result.andThen_ok, storeVar, run_sizeOf cM]
  rw [if_neg (by simpa using fa)]
  exact cG
 have hG : Good P I I μ (μ.dY b F') w (w.setRow g (cs.toList.take off ++ (a.eval y).cells.toList ++ cs.toList.drop (off + (a.eval y).cells.toList.length)).toArray) hp (hp.set b (some (blk.1.take idx ++ cellsV (e y) ++ blk.1.drop (idx + s), blk.2))) [b] [b] := by
  have e := Ar cs.toList (a.eval y).cells.toList off (flat blk.1).length af (by simpa using S4)
  have gH : (a.eval y).cells.size = s := by simpa using fa
  refine Good.rY (bG := (_, blk.2)) (by simpa using pre) (by simp) hb hg hw rfl ?_ dP lC ?_
  ·simp only [List.size_toArray, List.length_append, List.length_take, List.length_drop, Array.length_toList]; omega
  ·refine ⟨?_, ?_⟩
   ·show (flat (blk.1.take idx ++ cellsV _ ++ blk.1.drop (idx + s))).length <= _
    rw [dK]; simp only [List.size_toArray, List.length_append, List.length_take, List.length_drop, Array.length_toList]; omega
   ·show CR P I μ w F' (blk.1.take idx ++ cellsV _ ++ blk.1.drop (idx + s)) (List.take (flat (blk.1.take idx ++ cellsV _ ++ blk.1.drop (idx + s))).length _)
    rw [dK, e, fa]
    exact qK
 have := hK undef _ _ _ (by simp [V.R]) hG
 unfold Oper.wp
 simp only [execOp, ho, Sem.run_bind, nG, Result.andThen_ok, Sem.run_pure]
 exact this
theorem PL {e : Operand -> V} {t : TypeId} {x y : Operand} {ps : List Prop} {out : Out} (h : dStore P vw hp t (e x) (e y) = .one ps out) (ha : All ps) : fH P e hp (.store t x y) out := by
 unfold dStore at h
 split at h
 case h_2 => cases h
 rename_i Ls bm b idx sh s jm cM
 split at h
 case h_2 => cases h
 rename_i blk hb
 split at h
 case h_2 => cases h
 simp only at h
 split at h
 case h_2 => cases h
 rename_i hc hs
 cases h
 simp only [Bool.and_eq_true, beq_iff_eq] at hc
 obtain ⟨⟨⟨⟨⟨c1, c2⟩, c3⟩, c4⟩, c5⟩, c6⟩ := hc
 obtain ⟨k1, _, off, k3, k4⟩ := xW jm ha
 have bI : b < hp.length := k1.tidy.iu b (by simp)
 refine (fH.Lr k1 (ae3 k3 hb cM c3 c4 c5 (k4 blk hb c2) hs c1 c6)).sub (fun c => ?_) fun c => ?_
 all_goals
  simp only [fb, List.mem_append, List.mem_singleton, or_self]
  constructor
  ·exact fun h => h.1
  ·rintro rfl; exact ⟨rfl, bI⟩
theorem aj7 {z : List V} (hz : z.all V.one = true) (h0 : 0 < z.length) (n : Nat) : (gB z n).all V.one = true := by
 rw [List.all_eq_true] at hz ⊢
 intro v hv
 simp only [gB, List.mem_map, List.mem_range] at hv
 obtain ⟨i, _, rfl⟩ := hv
 have hi : i % z.length < z.length := Nat.mod_lt _ h0
 rw [List.getD_eq_getElem?_getD, List.getElem?_eq_getElem hi]
 exact hz _ (List.getElem_mem _)
theorem PI {e : Operand -> V} {c : Call} {x : Operand} {t : TypeId} {ps : List Prop} {out : Out} (iC : c.callee = .builtin .clear) (bS : c.args.toList = [x]) (vo : c.argTypes.toList = [t]) (h : dClear P hp t (e x) = .one ps out) (ha : All ps) : fH P e hp (.call c) out := by
 have It : c.args = #[x] := by cases hh : c.args; rw [hh] at bS; simp at bS; simp [bS]
 have RF : c.argTypes = #[t] := by cases hh : c.argTypes; rw [hh] at vo; simp at vo; simp [vo]
 unfold dClear at h
 split at h
 case h_2 => cases h
 rename_i elem hu
 split at h
 case h_2 => cases h
 rename_i b off n full hx
 split at h
 case h_2 => cases h
 rename_i i d T hi hb
 split at h
 case h_2 => cases h
 rename_i z hz
 split at h
 case h_2 => cases h
 rename_i hc ko
 cases h
 obtain ⟨pa, jR, iZ⟩ := of_decide_eq_true hc
 obtain ⟨h0, hle, _⟩ := ha
 have t1 := wa hb (some ([.aJ (d.take off)], T)) []
 rw [List.append_nil] at t1
 refine ⟨t1, fun {I μ w oper a K Q} ho bR pre hK => ?_⟩
 have qY := bR x (by simp only [Op.operands, Call.operands, It]; exact Array.mem_append.2 (.inr (by simp)))
 rw [hx] at qY
 simp only [V.R] at qY
 obtain ⟨g, cap, e', N, i', hg, Dw, _, _, _, c8, _⟩ := qY.resolve_right (by rintro ⟨_, h1, _⟩; omega)
 obtain ⟨cs, fr, _, hw, dP, ⟨cM, jP⟩, _⟩ := (pre.holds b (by simp) _ hb).kZ hg c8
 have dL : Row w g T cs := ⟨fr, hw, dP⟩
 have iD : flat [V.aJ d] = d := by simp [flat]
 simp only [iD] at cM jP
 have zi : V.RL P I μ w (gB (z.cells.toList.map ofScalar) (n * i.size)) (Builtin.zeroCells z.cells n).toList := by
  have := xS (P := P) (I := I) (μ := μ) (w := w) z.cells (n * i.size)
  unfold Builtin.zeroCells
  rw [iZ]; rw [iZ] at this; exact this
 have fa : (Builtin.zeroCells z.cells n).toList.length = n * i.size := by simp [Builtin.zeroCells, iZ]
 have cG := rL P g off T (Builtin.zeroCells z.cells n).toList 0 cs w dL af (tK zi (aj7 ko (by simp [iZ, jR]) _))
 simp only [Nat.add_zero] at cG
 have gH : (Builtin.zeroCells z.cells n).size = n * i.size := by simpa using fa
 have nG : (Builtin.clear_ #[t] oper.type #[a.eval x]).run P w = .ok (.tuple #[]) (w.setRow g (cs.toList.take off ++ (Builtin.zeroCells z.cells n).toList ++ cs.toList.drop (off + (Builtin.zeroCells z.cells n).toList.length)).toArray) := by
  rw [Dw]
  obtain ⟨n', rfl⟩ : ∃ n', n = n' + 1 := ⟨n - 1, af⟩
  simp [Builtin.clear_, Sem.run_bind, run_underlying hu, zeroValue, typeInfo, hi, hz]
  rw [cG]
  simp
 have RD : V.RL P I bY w d (cs.toList.take d.length) := by
  obtain ⟨us, us', e1, h2, h3⟩ := CR.EI.1 jP
  obtain ⟨_, e4⟩ := CR.fp.1 h3
  subst e4
  rw [List.append_nil] at e1
  rw [e1]; exact h2
 have hG : Good P I I μ (μ.dY b []) w (w.setRow g (cs.toList.take off ++ (Builtin.zeroCells z.cells n).toList ++ cs.toList.drop (off + (Builtin.zeroCells z.cells n).toList.length)).toArray) hp (hp.set b (some ([.aJ (d.take off)], T))) [b] [b] := by
  refine Good.rY (bG := ([.aJ (d.take off)], T)) (by simpa using pre) (by simp) hb hg hw rfl ?_ dP (List.nil_sublist _) ?_
  ·simp only [List.size_toArray, List.length_append, List.length_take, List.length_drop, Array.length_toList]; omega
  ·have bO : (d.take off).length = off := by rw [List.length_take]; omega
   refine gC.aJ ?_ ?_
   ·simp only [List.size_toArray, List.length_append, List.length_take, List.length_drop, Array.length_toList]; omega
   ·rw [bO]
    have := V.RL.take RD off
    rw [List.take_take, Nat.min_eq_left af] at this
    simp only [List.append_assoc]
    rw [List.take_append_of_le_length (by rw [List.length_take, Array.length_toList]; omega), List.take_take, Nat.min_self]
    exact this
 have := hK (.tuple #[]) _ _ _ (by simp [V.R, V.RL]) hG
 unfold Oper.wp
 simp only [execOp, ho, resolve, iC, It, RF, invoke, builtin, Sem.run_bind, Sem.run_pure, Result.andThen_ok, List.map_toArray, List.map_cons, List.map_nil, nG]
 exact this
theorem PK (hn : dA P) {e : Operand -> V} {op : Op} {ps : List Prop} {out : Out} (h : dOp P vw e hp op = .one ps out) (ha : All ps) : fH P e hp op out := by
 unfold dOp at h
 split at h
 ·exact PJ hn h ha
 ·exact PL h ha
 ·split at h
  ·rename_i iC bS vo
   exact PI iC bS vo h ha
  ·cases h
 ·cases h
end
structure Ga : Type 1 where
 {β : Type}
 v : β
 r : β -> Bool × V
structure Gb : Type 1 where
 {β : Type}
 v : β
 r : β -> List V
structure Gc : Type 1 where
 look : TypeId -> List V -> V -> Option Ga := fun _ _ _ => none
 put : TypeId -> List V -> V -> V -> Option Gb := fun _ _ _ _ => none
inductive NW : Type 1 where
 | look (l : Ga)
 | put (l : Gb)
 | no
def mOp (_ : Program) (_ : Option (Bool × V)) (_ : Option (List V)) (_ : Operand -> V) (_ : Hp) : Op -> SO
 | .makeMap _ _ => .no
 | _ => .no
def VE (_ : Program) (_ : Gc) (_ : Operand -> V) (_ : Hp) : Op -> NW
 | .makeMap _ _ => .no
 | _ => .no
theorem JU {P : Program} {lk : Option (Bool × V)} {pt : Option (List V)} {e : Operand -> V} {hp : Hp} {op : Op} {ps : List Prop} {out : Out} (h : mOp P lk pt e hp op = .one ps out) (_ : All ps) : fH P e hp op out := by
 unfold mOp at h
 split at h <;> cases h
inductive T (α : Type) : Type 1 where
 | done (a : α)
 | ag (ps : List Prop) (t : T α)
 | bind {β : Type} (v : β) (k : β -> T α)
 | fail
def T.WP {α : Type} (Q : α -> Prop) : T α -> Prop
 | .done a => Q a
 | .ag ps t => All ps /\ t.WP Q
 | .bind v k => ∀ y, y = v -> (k y).WP Q
 | .fail => False
def T.force {α : Type} (t : T α) : T α := match t with
 | .done a => .done a
 | .ag ps t => .ag ps t
 | .bind v k => .bind v k
 | .fail => .fail
theorem T.force_eq {α : Type} (t : T α) : t.force = t := by cases t <;> rfl
def mK {α : Type} (ps : List Prop) (t : T α) : T α :=
 match ps with
 | [] => t
 | p :: ps => .ag (p :: ps) t
theorem p9 {α : Type} {Q : α -> Prop} {ps : List Prop} {t : T α} (h : (mK ps t).WP Q) : All ps /\ t.WP Q := by
 cases ps with
 | nil => exact ⟨bn, h⟩
 | cons p ps => exact h
theorem az {α : Type} {Q : α -> Prop} {b : Bool} {x y : T α} : (cond b x y).WP Q ↔ (b = true -> x.WP Q) /\ (b = false -> y.WP Q) := by
 cases b <;> simp
theorem N2 {α : Type} {Q : α -> Prop} {b : Bool} {x y : T α} (h : (cond b x y).WP Q) : x.WP Q \/ y.WP Q := by
 cases b
 ·exact .inr h
 ·exact .inl h
structure NZ : Type 1 where
 {β : Type}
 v : β
 r : β -> aj
abbrev cP := FuncId -> List V -> Hp -> Option NZ
inductive NU where
 | one (k : Kp) (s0 : St) (ex : Ex) (s1 : St)
 | two (k : Kp) (s0 : St) (c : Bool) (ex : Ex) (s1 : St) (ex' : Ex) (s1' : St)
structure bT : Type 1 where
 {β : Type}
 v : β
 alt : β -> NU
structure Env : Type 1 where
 P : Program
 vw : Vw
 res : cP
 ls : Nat -> St -> Option bT := fun _ _ => none
 vs : List (Nat × Nat × V) := []
 mt : List (TypeId × String × FuncId) := []
 pk : Option gQ := none
 mp : Gc := {}
 sp : Nat -> Nat -> FuncId -> List V -> Hp -> Option (Bool × aj × aj) := fun _ _ _ _ _ => none
def ai4 (vs : List (Nat × Nat × V)) (r i : Nat) : Option V := (vs.find? fun h => Nat.beq h.1 r && Nat.beq h.2.1 i).map (·.2.2)
def bodyB (P : Program) (f : FuncId) : Bool := match P.funcs[f]? with
 | some fn => fn.body.isSome
 | none => false
def BD (hp : Hp) (ids : List Nat) (r : aj) : Out :=
 ⟨V.ren (kL ids hp.length) r.v, (hp.zipIdx.map fun x => if (r.wr.filterMap fun j => ids[j]?).contains x.2 then j1 (kL ids hp.length) (((pos ids x.2).bind fun j => r.hp[j]?).getD none) else x.1) ++ (r.hp.drop ids.length).map (j1 (kL ids hp.length)), ids, r.wr.filterMap fun j => ids[j]?⟩
section
variable {α : Type}
def callT (E : Env) (r i : Nat) (hp : Hp) (f : FuncId) (vs : List V) (k : Out -> T α) : T α :=
 let ids := reach hp 100000 (V.refsL vs) []
 let cD := V.renL (pos ids) vs
 let ez := ids.map fun b => j1 (pos ids) (hp.getD b none)
 match E.sp r i f cD ez, bodyB E.P f with
 | some (c, r1, r2), true => cond c (.ag [ao E.P f cD ez r1] (k (BD hp ids r1))) (.ag [ao E.P f cD ez r2] (k (BD hp ids r2)))
 | _, b => match E.res f cD ez, b with
  | some ⟨v, r⟩, true => .bind v fun y => .ag [ao E.P f cD ez (r y)] (k (BD hp ids (r y)))
  | _, _ => .fail
noncomputable def opT (E : Env) (r i : Nat) (e : Operand -> V) (hp : Hp) (op : Op) (k : Out -> T α) : T α :=
 match op with
 | .call { callee := .value f, args := args, argTypes := _ } =>
  match e f with
  | .fn g cap => callT E r i hp g (args.toList.map e ++ cap) k
  | _ => .fail
 | .call { callee := .invoke x name, args := args, argTypes := _ } =>
  match e x with
  | .box (.iface t) [v] => match E.mt.find? (fun m => Nat.beq m.1 t && m.2.1 == name) with
   | some (t', name', f) => .ag [t' = t, name' = name, uE E.P t name f] (callT E r i hp f (v :: args.toList.map e) k)
   | none => .fail
  | _ => .fail
 | op => match ai4 E.vs r i, op with
  | some v, .load t x => match (e x).asPtr with
   | .ptr b o => match hp[b]?, E.P.underlying t, da E.P t with
    | some (some blk), some d, some _ => match jA d || v.isO || Nat.beq blk.2 kV with
     | true => .fail
     | false => .ag [(flat blk.1)[o]? = some v] (k ⟨v, hp, [b], []⟩)
    | _, _, _ => .fail
   | _ => .fail
  | _, op => match VE E.P E.mp e hp op with
   | .look l => .bind l.v fun y => match mOp E.P (some (l.r y)) none e hp op with
    | .one ps o => mK ps (k o)
    | _ => .fail
   | .put l => .bind l.v fun y => match mOp E.P none (some (l.r y)) e hp op with
    | .one ps o => mK ps (k o)
    | _ => .fail
   | .no => match mOp E.P none none e hp op with
   | .one ps o => mK ps (k o)
   | _ => match dOp E.P E.vw e hp op with
   | .one ps o => mK ps (k o)
   | _ => match evOpS E.P E.vw e hp op with
   | .one ps o => mK ps (k o)
   | .two c ps o qs o' => cond c (mK ps (k o)) (mK qs (k o'))
   | .no => match evPlain E.P e hp op with
    | some o => k o
    | none => match sMore E.P e hp op with
     | .one ps o => mK ps (k o)
     | _ => .fail
def pv {β : Type _} (s : St) (d : Nat) (b : Bool) (k : St -> β) : β := lU s.tm (some d) (.bool b) fun tm => k ⟨tm, s.hp, s.wr⟩
theorem Tr.EP : ∀ (t : Tr) (i : Nat), t.set i (t.get i) = t
 | .leaf, _ => rfl
 | .node v l r, i => by
  unfold Tr.set Tr.get
  cases h0 : Nat.beq i 0
  ·cases h1 : Nat.beq (i % 2) 1
   ·simp only [Tr.EP r]
   ·simp only [Tr.EP l]
  ·rfl
theorem tG {β : Type _} {s : St} {d : Nat} {b : Bool} {k : St -> β} (h : s.tm.get d = .bool b) : pv s d b k = k s := by
 unfold pv
 rw [tN]
 have : kY s.tm (some d) (.bool b) = s.tm := by
  unfold Tm.get at h
  split at h
  ·show (⟨s.tm.n, s.tm.t.set d (.bool b)⟩ : Tm) = s.tm
   rw [<- h, Tr.EP]
  ·cases h
 rw [this]
noncomputable def runT (E : Env) (r i : Nat) (s : St) (o : Oper) (k : St -> List Nat -> List Nat -> T α) : T α := opT E r i (evalV s.tm) s.hp o.op fun out => my out.v fun v => lU s.tm o.dst v fun tm => k ⟨tm, out.hp, forceW out.wr s.wr⟩ out.acc out.wr
def MJ (s : St) (o : Oper) (k : St -> List Nat -> List Nat -> T α) : T α := lU s.tm o.dst (.lit undef) fun tm => k ⟨tm, s.hp, s.wr⟩ [] []
noncomputable def stepT (E : Env) (ops : Array Oper) (r i : Nat) (s : St) (o : Oper) (k : St -> List Nat -> List Nat -> T α) : T α :=
 match o.guard with
 | none => opT E r i (evalV s.tm) s.hp o.op fun out => my out.v fun v => lU s.tm o.dst v fun tm => k ⟨tm, out.hp, forceW out.wr s.wr⟩ out.acc out.wr
 | some (j, want) => match (ops[j]?).bind (·.dst) with
  | some d => match s.tm.get d with
   | .bool b => match want with
    | true => cond b (pv s d true fun s => runT E r i s o k) (pv s d false fun s => MJ s o k)
    | false => cond b (pv s d true fun s => MJ s o k) (pv s d false fun s => runT E r i s o k)
   | .lit (.tuple _) => lU s.tm o.dst (.lit undef) fun tm => k ⟨tm, s.hp, s.wr⟩ [] []
   | _ => .fail
  | none => .fail
noncomputable def traceT (E : Env) (ops : Array Oper) (r : Nat) : Nat -> List Oper -> St -> List Rec -> (List Rec -> St -> T α) -> T α
 | _, [], s, acc, k => k acc.reverse s
 | i, o :: rest, s, acc, k => stepT E ops r i s o fun s' ac wr => traceT E ops r (i + 1) rest s' ((s, ac, wr) :: acc) k
noncomputable def codeT (E : Env) (m : Nat) : Code -> St -> (Ex -> St -> T α) -> T α
 | .skip, s, k => k .normal s
 | .region id ops draw, s, k => traceT E ops id 0 ops.toList s [] fun l s2 => match draw with
  | false => k .normal s2
  | true => match sG ops l s2 with
   | true => k .normal s2
   | false => .fail
 | .seq x y, s, k => codeT E m x s fun ex s' => match ex with
  | .normal => codeT E m y s' k
  | .exit i => k (.exit i) s'
  | .ret => k .ret s'
 | .cond c x y, s, k => match evalV s.tm c with
  | .bool b => match c with
   | .tmp t => cond b (pv s t true fun s => codeT E m x s k) (pv s t false fun s => codeT E m y s k)
   | _ => cond b (codeT E m x s k) (codeT E m y s k)
  | _ => .fail
 | .block id body, s, k => match E.ls id s with
  | some ⟨v, alt⟩ => .bind v fun y => match alt y with
   | .one kp s0 ex s1 => normC E.P m kp s fun ok sn => match ok with
    | true => .ag [sn = s0, aV E.P m body s0 ex s1] (k (outEx id ex) s1)
    | false => .fail
   | .two kp s0 c ex s1 ex' s1' => normC E.P m kp s fun ok sn => match ok with
    | true => .ag [sn = s0] (cond c (.ag [aV E.P m body s0 ex s1] (k (outEx id ex) s1)) (.ag [aV E.P m body s0 ex' s1'] (k (outEx id ex') s1')))
    | false => .fail
  | none => codeT E m body s fun ex s' => k (outEx id ex) s'
 | .exit id, s, k => k (.exit id) s
 | .ret, s, k => k .ret s
 | _, _, _ => .fail
def DI (m mode : Nat) (v : List V) (hp : Hp) : List Nat :=
 (List.range m ++ ((match mode with
  | 0 => V.tM v
  | 1 => V.refsL v
  | _ => V.refsL v ++ (hp.take m).flatMap (fun (x : Option bM) => match x with | some blk => V.refsL blk.1 | none => [])).filter fun b => Nat.ble m b)).eraseDups
def Z4 (m : Nat) (ids : List Nat) (zI : List Nat) : List Nat := ((List.range ids.length).filter fun j => Nat.ble m j && !(zI.contains (ids.getD j 0)))
def wi (E : Env) (m mode : Nat) (v : V) (s : St) : T aj :=
 match ib m (DI m mode [v] s.hp) with
 | true => .done (gc E.P m (DI m mode [v] s.hp) (Z4 m (DI m mode [v] s.hp) (V.tM [v])) v s)
 | false => .fail
def retT (E : Env) (m mode : Nat) (fn : Func) (s : St) : T aj :=
 match evResultL E.P s.hp s.tm fn.results.toList with
 | some v => match E.pk with
  | none => wi E m mode (oneOf v) s
  | some ow => zC E.P ow m [] (oneOf v) s fun ids s1 => match ids with
   | some ids => my (frz E.P s.hp ids m 100 (oneOf v)) fun v => wi E m mode v s1
   | none => wi E m mode (oneOf v) s1
 | none => .fail
theorem Zk (E : Env) (m mode : Nat) (fn : Func) (s : St) : retT E m mode fn s = match evResultL E.P s.hp s.tm fn.results.toList with
  | some v => wi E m mode (packF E.P E.pk m [] (oneOf v) s (oneOf v)) (pB E.P E.pk m [] (oneOf v) s)
  | none => .fail := by
 unfold retT
 split
 ·split
  ·rename_i h; unfold packF pB; rw [h]; rfl
  ·rename_i ow h
   rw [Li]
   unfold packF
   rw [h]
   dsimp only
   split
   ·rename_i ids e
    split at e
    ·rename_i e2
     rw [qy, e2]
     cases e
     rfl
    ·cases e
   ·rename_i e
    split at e
    ·cases e
    ·rename_i e2
     rw [e2]
     rfl
 ·rfl
noncomputable def fnT (E : Env) (mode : Nat) (f : FuncId) (vs : List V) (hp : Hp) : T aj :=
 match E.P.funcs[f]? with
 | some fn => match fn.body with
  | some c => codeT E hp.length c ⟨Tm.start (vs.length + (fn.ntmps - vs.length)) vs, hp, []⟩ fun ex s => match ex with
   | .normal => retT E hp.length mode fn s
   | .ret => retT E hp.length mode fn s
   | .exit _ => .fail
  | none => .fail
 | none => .fail
noncomputable def bx (E : Env) (m : Nat) (nf : Ex -> Kp) (c : Code) (s : St) : T (Ex × St) :=
 codeT E m c s fun ex s' => normC E.P m (nf ex) s' fun ok sn => match ok with
  | true => .done (ex, sn)
  | false => .fail
variable {E : Env} {Q : α -> Prop}
theorem Xf (P : Program) : jf P fun _ _ _ => none := fun _ _ _ _ h => by cases h
theorem Xe (P : Program) : kE P fun _ _ _ => none := fun _ _ _ _ h => by cases h
theorem uV {P : Program} {callF : fG} {e : Operand -> V} {hp : Hp} {op : Op} {out : Out} (h : evPlain P e hp op = some out) : evOp P callF e hp op = some out := by
 unfold evOp
 split
 ·simp [evPlain] at h
 ·simp [evPlain] at h
 ·rw [h]
open Classical in
noncomputable def rf (f : FuncId) (vs : List V) (hp : Hp) (r : aj) : fG := fun f' cD ez => if f' = f /\ cD = vs /\ ez = hp then some r else none
theorem Eb {P : Program} {f : FuncId} {vs : List V} {hp : Hp} {r : aj} (h : ao P f vs hp r) : jf P (rf f vs hp r) := by
 intro f' cD ez r' h'
 unfold rf at h'
 split at h'
 ·rename_i hc; obtain ⟨rfl, rfl, rfl⟩ := hc; cases h'; exact h
 ·cases h'
theorem Ea {P : Program} {f : FuncId} {vs : List V} {hp : Hp} {r : aj} (h : bodyB P f = true) : kE P (rf f vs hp r) := by
 intro f' cD ez r' h'
 unfold rf at h'
 split at h'
 ·rename_i hc; obtain ⟨rfl, rfl, rfl⟩ := hc
  unfold bodyB at h
  split at h
  ·rename_i fn gW; exact ⟨fn, gW, h⟩
  ·cases h
 ·cases h'
theorem GD {r i : Nat} {hp : Hp} {f : FuncId} {vs : List V} {k : Out -> T α} (h : (callT E r i hp f vs k).WP Q) :
  ∃ callF out, kE E.P callF /\ jf E.P callF /\ evCall callF hp f vs = some out /\ (k out).WP Q := by
 unfold callT at h
 simp only at h
 split at h
 ·rename_i c r1 r2 hr hb
  cases c
  ·obtain ⟨⟨h1, _⟩, h2⟩ := h
   refine ⟨_, _, Ea (r := r2) hb, Eb h1, ?_, h2⟩
   unfold evCall rf
   simp only [and_self, if_true]
   rfl
  ·obtain ⟨⟨h1, _⟩, h2⟩ := h
   refine ⟨_, _, Ea (r := r1) hb, Eb h1, ?_, h2⟩
   unfold evCall rf
   simp only [and_self, if_true]
   rfl
 ·split at h
  ·rename_i β v r hr hb
   obtain ⟨⟨h1, _⟩, h2⟩ := h v rfl
   refine ⟨_, _, Ea (r := r v) hb, Eb h1, ?_, h2⟩
   unfold evCall rf
   simp only [and_self, if_true]
   rfl
  ·exact h.elim
theorem XP (hn : dA E.P) {r i : Nat} {e : Operand -> V} {hp : Hp} {op : Op} {k : Out -> T α} (h : (opT E r i e hp op k).WP Q) :
  ∃ out, fH E.P e hp op out /\ (k out).WP Q := by
 have plain : ∀ {out : Out}, evOp E.P (fun _ _ _ => none) e hp op = some out -> fH E.P e hp op out := fun h => uU hn (Xe _) (Xf _) h
 unfold opT at h
 split at h
 ·split at h
  ·rename_i f args ts g cap hf
   obtain ⟨callF, out, h1, h2, h3, h4⟩ := GD h
   exact ⟨out, uU hn h1 h2 (by simp only [evOp, hf]; exact h3), h4⟩
  ·exact h.elim
 ·split at h
  ·rename_i x name args ts t v hx
   split at h
   ·rename_i t' name' f hm
    obtain ⟨⟨rfl, rfl, Sr, _⟩, h⟩ := h
    obtain ⟨callF, out, h1, h2, h3, h4⟩ := GD h
    exact ⟨out, uU hn h1 h2 (by simp only [evOp, hx, V0 Sr]; exact h3), h4⟩
   ·exact h.elim
  ·exact h.elim
 ·rename_i bp SB
  split at h
  ·rename_i v t x hv
   split at h
   ·rename_i b o hx
    split at h
    ·rename_i blk d sz hb hu hs
     split at h
     ·exact h.elim
     ·rename_i hd
      obtain ⟨⟨h1, _⟩, h2⟩ := h
      refine ⟨_, plain (uV ?_), h2⟩
      rw [Bool.or_eq_false_iff, Bool.or_eq_false_iff] at hd
      simp only [evPlain, hx, evLoad, hb, hu, hs, hd.1.1, h1, hd.1.2, hd.2, Bool.or_self]
    ·exact h.elim
   ·exact h.elim
  ·rename_i op _ _ _
   have eP := XE (P := E.P) (vw := E.vw) (hp := hp) (e := e) op
   have JX : ∀ {lk pt}, (match mOp E.P lk pt e hp op with | .one ps o => mK ps (k o) | _ => (.fail : T α)).WP Q -> ∃ out, fH E.P e hp op out /\ (k out).WP Q := by
    intro lk pt hh
    split at hh
    ·rename_i ps o hd
     obtain ⟨h1, h2⟩ := p9 hh
     exact ⟨_, JU hd h1, h2⟩
    ·exact hh.elim
   split at h
   ·rename_i l _
    exact JX (h l.v rfl)
   ·rename_i l _
    exact JX (h l.v rfl)
   split at h
   ·rename_i ps o hd
    obtain ⟨h1, h2⟩ := p9 h
    exact ⟨_, JU hd h1, h2⟩
   split at h
   ·rename_i ps o hd
    obtain ⟨h1, h2⟩ := p9 h
    exact ⟨_, PK hn hd h1, h2⟩
   split at h
   ·rename_i ps o hs
    rw [hs] at eP
    obtain ⟨h1, h2⟩ := p9 h
    exact ⟨_, plain (uV (eP h1)), h2⟩
   ·rename_i c ps o qs o' hs
    rw [hs] at eP
    cases c
    ·obtain ⟨h1, h2⟩ := p9 h
     exact ⟨_, plain (uV (eP.2 rfl h1)), h2⟩
    ·obtain ⟨h1, h2⟩ := p9 h
     exact ⟨_, plain (uV (eP.1 rfl h1)), h2⟩
   ·split at h
    ·rename_i bm
     exact ⟨_, plain (uV bm), h⟩
    ·rename_i bm
     have I8 := ZR (P := E.P) (hp := hp) (e := e) op
     split at h
     ·rename_i ps o dw
      rw [dw] at I8
      obtain ⟨h1, h2⟩ := p9 h
      refine ⟨_, plain ?_, h2⟩
      unfold evOp
      split
      ·exact absurd rfl (bp _ _ _)
      ·exact absurd rfl (SB _ _ _ _)
      ·rw [bm]; exact I8 h1
     ·exact h.elim
theorem ad8 (hn : dA E.P) {ops : Array Oper} {r i : Nat} {s : St} {o : Oper} {k : St -> List Nat -> List Nat -> T α} (h : (stepT E ops r i s o k).WP Q) :
  ∃ s' acc wr, oe E.P ops s o s' acc wr /\ (k s' acc wr).WP Q := by
 have go : wantedV ops s.tm o = some true -> (opT E r i (evalV s.tm) s.hp o.op fun out => my out.v fun v => lU s.tm o.dst v fun tm => k ⟨tm, out.hp, forceW out.wr s.wr⟩ out.acc out.wr).WP Q ->
   ∃ s' acc wr, oe E.P ops s o s' acc wr /\ (k s' acc wr).WP Q := by
  intro hw h
  obtain ⟨out, h3, h4⟩ := XP hn h
  simp only [tN, qy, H4] at h4
  exact ⟨_, _, _, .inl ⟨hw, out, h3, rfl, rfl, rfl⟩, h4⟩
 have skip : wantedV ops s.tm o = some false -> (lU s.tm o.dst (.lit undef) fun tm => k ⟨tm, s.hp, s.wr⟩ [] []).WP Q ->
   ∃ s' acc wr, oe E.P ops s o s' acc wr /\ (k s' acc wr).WP Q := by
  intro hw h
  simp only [tN] at h
  exact ⟨_, _, _, .inr ⟨hw, rfl, rfl, rfl⟩, h⟩
 unfold stepT at h
 split at h
 ·rename_i hg
  exact go (by simp only [wantedV, hg]) h
 ·rename_i j want hg
  split at h
  ·rename_i d hd
   split at h
   ·rename_i b hb
    split at h
    ·cases b
     ·simp only [cond_false, tG hb] at h
      exact skip (by simp [wantedV, hg, hd, hb]) h
     ·simp only [cond_true, tG hb] at h
      exact go (by simp [wantedV, hg, hd, hb]) h
    ·cases b
     ·simp only [cond_false, tG hb] at h
      exact go (by simp [wantedV, hg, hd, hb]) h
     ·simp only [cond_true, tG hb] at h
      exact skip (by simp [wantedV, hg, hd, hb]) h
   ·rename_i hb
    exact skip (by simp only [wantedV, hg, hd, hb]) h
   ·exact h.elim
  ·exact h.elim
theorem Nq (hn : dA E.P) {ops : Array Oper} {r : Nat} : ∀ {os : List Oper} {i : Nat} {s : St} {acc : List Rec} {k : List Rec -> St -> T α}, (traceT E ops r i os s acc k).WP Q ->
  ∃ l s2, me E.P ops os s l s2 /\ (k (acc.reverse ++ l) s2).WP Q
 | [], i, s, acc, k, h => ⟨[], s, .nil s, by simpa [traceT] using h⟩
 | o :: rest, i, s, acc, k, h => by
  unfold traceT at h
  obtain ⟨s', ac, wr, h3, h4⟩ := ad8 hn h
  obtain ⟨l, s2, h5, h6⟩ := Nq hn h4
  refine ⟨(s, ac, wr) :: l, s2, .cons h3 h5, ?_⟩
  simpa using h6
theorem qi (hm : E.P.follows .mixedOrders = true) (hn : dA E.P) {m : Nat} : ∀ {c : Code} {s : St} {k : Ex -> St -> T α}, (codeT E m c s k).WP Q -> ∃ ex s', aV E.P m c s ex s' /\ (k ex s').WP Q
 | .skip, s, k, h => ⟨.normal, s, .skip, h⟩
 | .region id ops draw, s, k, h => by
  unfold codeT at h
  obtain ⟨l, s2, h1, h2⟩ := Nq hn h
  simp only [List.reverse_nil, List.nil_append] at h2
  cases draw with
  | false => exact ⟨.normal, s2, .region hm hn h1 (fun h => by cases h), h2⟩
  | true =>
   simp only at h2
   split at h2
   ·rename_i hd
    exact ⟨.normal, s2, .region hm hn h1 (fun _ => hd), h2⟩
   ·exact h2.elim
 | .seq x y, s, k, h => by
  unfold codeT at h
  obtain ⟨ex, s', h1, h2⟩ := qi hm hn h
  cases ex with
  | normal =>
   obtain ⟨Qn, s2, h3, h4⟩ := qi hm hn h2
   exact ⟨Qn, s2, .seq h1 h3, h4⟩
  | exit i => exact ⟨_, _, .zV h1 (by simp), h2⟩
  | ret => exact ⟨_, _, .zV h1 (by simp), h2⟩
 | .cond c x y, s, k, h => by
  unfold codeT at h
  split at h
  ·rename_i b hb
   have h' : (cond b (codeT E m x s k) (codeT E m y s k)).WP Q := by
    split at h
    ·cases b
     ·rwa [cond_false, tG hb] at h
     ·rwa [cond_true, tG hb] at h
    ·exact h
   clear h
   cases b
   ·obtain ⟨ex, s', h1, h2⟩ := qi hm hn h'
    exact ⟨ex, s', .cond hb h1, h2⟩
   ·obtain ⟨ex, s', h1, h2⟩ := qi hm hn h'
    exact ⟨ex, s', .cond hb h1, h2⟩
  ·exact h.elim
 | .block id body, s, k, h => by
  unfold codeT at h
  split at h
  ·replace h := h _ rfl
   simp only [KG] at h
   split at h
   ·split at h
    ·rename_i hp
     obtain ⟨⟨h1, h2, _⟩, h3⟩ := h
     exact ⟨_, _, .block (.pre (h1 ▸ zA hp) h2), h3⟩
    ·exact h.elim
   ·split at h
    ·rename_i hp
     obtain ⟨⟨h1, _⟩, h3⟩ := h
     rcases N2 h3 with h3 | h3
     ·obtain ⟨⟨h2, _⟩, h4⟩ := h3
      exact ⟨_, _, .block (.pre (h1 ▸ zA hp) h2), h4⟩
     ·obtain ⟨⟨h2, _⟩, h4⟩ := h3
      exact ⟨_, _, .block (.pre (h1 ▸ zA hp) h2), h4⟩
    ·exact h.elim
  ·obtain ⟨ex, s', h1, h2⟩ := qi hm hn h
   exact ⟨_, _, .block h1, h2⟩
 | .exit id, s, k, h => ⟨_, _, .exit, h⟩
 | .ret, s, k, h => ⟨_, _, .ret, h⟩
 | .loop _, _, _, h => h.elim
 | .rangeFunc _ _ _ _, _, _, h => h.elim
 | .scope _, _, _, h => h.elim
 | .label _, _, _, h => h.elim
 | .goto _, _, _, h => h.elim
 | .refuse _, _, _, h => h.elim
theorem Cu (hm : E.P.follows .mixedOrders = true) (hn : dA E.P) {mode : Nat} {f : FuncId} {vs : List V} {hp : Hp} {Q : aj -> Prop} (h : (fnT E mode f vs hp).WP Q) : ∃ r, ao E.P f vs hp r /\ Q r := by
 unfold fnT at h
 split at h
 ·rename_i fn gW
  split at h
  ·rename_i c hc
   obtain ⟨ex, s, h1, h2⟩ := qi hm hn h
   have key : (retT E hp.length mode fn s).WP Q -> ex = .normal \/ ex = .ret -> ∃ r, ao E.P f vs hp r /\ Q r := by
    intro h hex
    rw [Zk] at h
    split at h
    ·rename_i v hv
     unfold wi at h
     split at h
     ·rename_i hp
      exact ⟨_, QC gW hc h1 hex hv (Lj _ _ _ _) hp rfl, h⟩
     ·exact h.elim
    ·exact h.elim
   cases ex with
   | normal => exact key h2 (.inl rfl)
   | ret => exact key h2 (.inr rfl)
   | exit _ => exact h2.elim
  ·exact h.elim
 ·exact h.elim
theorem HT (hm : E.P.follows .mixedOrders = true) (hn : dA E.P) {mode : Nat} {f : FuncId} {vs : List V} {hp : Hp} {r : aj} {t : T aj} (e : fnT E mode f vs hp = t) (h : t.WP (· = r)) : ao E.P f vs hp r := by
 subst e
 obtain ⟨r', h1, rfl⟩ := Cu hm hn h
 exact h1
theorem Gt (hm : E.P.follows .mixedOrders = true) (hn : dA E.P) {m : Nat} {nf : Ex -> Kp} {c : Code} {s : St} {Q : Ex × St -> Prop} (h : (bx E m nf c s).WP Q) : ∃ ex s', aV E.P m c s ex s' /\ Q (ex, s') := by
 unfold bx at h
 obtain ⟨ex, s', h1, h2⟩ := qi hm hn h
 rw [KG] at h2
 split at h2
 ·rename_i hp
  exact ⟨ex, _, h1.post (zA hp), h2⟩
 ·exact h2.elim
def NV (P : Program) (m : Nat) (body : Code) (ex : Ex) (s' : St) : Ex × St -> Prop
 | (.normal, s1) => a8 P m body s1 ex s'
 | (.exit i, s1) => Ex.exit i = ex /\ s1 = s'
 | (.ret, s1) => Ex.ret = ex /\ s1 = s'
theorem bl (hm : E.P.follows .mixedOrders = true) (hn : dA E.P) {m : Nat} {nf : Ex -> Kp} {c : Code} {s s' : St} {ex : Ex} {t : T (Ex × St)} (e : bx E m nf c s = t) (h : t.WP (NV E.P m c ex s')) : a8 E.P m c s ex s' := by
 subst e
 obtain ⟨HF, s1, h1, h2⟩ := Gt hm hn h
 cases HF with
 | normal => exact .step h1 h2
 | exit i => obtain ⟨rfl, rfl⟩ := h2; exact .done h1 (by simp)
 | ret => obtain ⟨rfl, rfl⟩ := h2; exact .done h1 (by simp)
theorem iN (hm : E.P.follows .mixedOrders = true) (hn : dA E.P) {m : Nat} {nf : Ex -> Kp} {c : Code} {s s' : St} {ex : Ex} {t : T (Ex × St)} (e : bx E m nf c s = t) (h : t.WP (· = (ex, s'))) : aV E.P m c s ex s' := by
 subst e
 obtain ⟨HF, s1, h1, h2⟩ := Gt hm hn h
 cases h2
 exact h1
end
theorem named : dA Tryz.prog := Wi (by kernel_rfl)
theorem follows : Tryz.prog.follows .mixedOrders = true := by kernel_rfl
def ai (n : Nat) (l : List (Nat × V)) : Tm := l.foldl (fun t p => t.put p.1 p.2) ⟨n, Tr.mk0 11⟩
structure dn {α : Type} (enc : α -> List V) (s : Nat) : Prop where
 pos : 0 < s
 len : ∀ x, (enc x).length = s
 DF : ∀ x y, enc x = enc y -> x = y
 one : ∀ x, (enc x).all V.one = true
section
variable {α : Type} {enc : α -> List V} {s : Nat}
theorem uT : ah enc [] = [] := rfl
theorem eu (x : α) (L : List α) : ah enc (x :: L) = enc x ++ ah enc L := rfl
theorem qk (L M : List α) : ah enc (L ++ M) = ah enc L ++ ah enc M := by simp [ah]
theorem HA (x : α) : ah enc [x] = enc x := by simp [ah]
theorem dU (L : List α) (x : α) : ah enc (L ++ [x]) = ah enc L ++ enc x := by rw [qk, HA]
theorem dn.inj (h : dn enc s) : ∀ L M : List α, ah enc L = ah enc M -> L = M := by
 intro L
 induction L with
 | nil =>
  intro M hM
  cases M with
  | nil => rfl
  | cons y M =>
   have h1 := h.len y
   have h2 := h.pos
   rw [uT, eu] at hM
   have := congrArg List.length hM
   rw [List.length_append] at this
   rw [h1, List.length_nil] at this; omega
 | cons x L ih =>
  intro M hM
  cases M with
  | nil =>
   have h1 := h.len x
   have h2 := h.pos
   rw [uT, eu] at hM
   have := congrArg List.length hM
   rw [List.length_append] at this
   rw [h1, List.length_nil] at this; omega
  | cons y M =>
   rw [eu, eu] at hM
   obtain ⟨e1, e2⟩ := List.append_inj hM (by rw [h.len, h.len])
   rw [h.DF _ _ e1, ih M e2]
theorem dn.ae (h : dn enc s) (L : List α) : ae enc (ah enc L) = L := by
 have he : ∃ M, ah enc M = ah enc L := ⟨L, rfl⟩
 unfold Go.Proofs.YtlomaojlpodibaaGreat.ae
 rw [dif_pos he]
 exact h.inj _ _ he.choose_spec
theorem dn.length (h : dn enc s) (L : List α) : (ah enc L).length = L.length * s := by
 induction L with
 | nil => simp [ah]
 | cons x L ih => rw [eu, List.length_append, h.len, ih, List.length_cons, Nat.add_mul, Nat.one_mul, Nat.add_comm]
theorem dn.all (h : dn enc s) (L : List α) : (ah enc L).all V.one = true := by
 induction L with
 | nil => rfl
 | cons x L ih => rw [eu, List.all_append, h.one, ih]; rfl
theorem dn.hasO (h : dn enc s) (L : List α) : hasO (ah enc L) = false := by
 have := h.all L
 unfold Go.Proofs.YtlomaojlpodibaaGreat.hasO
 rw [List.any_eq_false]
 intro x hx
 have h1 := List.all_eq_true.1 this x hx
 cases x <;> first | (simp; done) | (simp [V.one] at h1; done)
theorem dn.drop (h : dn enc s) : ∀ (L : List α) (i : Nat), (ah enc L).drop (i * s) = ah enc (L.drop i)
 | L, 0 => by simp
 | [], i + 1 => by simp [ah]
 | x :: L, i + 1 => by
  rw [eu, List.drop_succ_cons, <- h.drop L i, Nat.succ_mul, Nat.add_comm, <- List.drop_drop, List.drop_left' (h.len x)]
theorem dn.take (h : dn enc s) : ∀ (L : List α) (i : Nat), (ah enc L).take (i * s) = ah enc (L.take i)
 | L, 0 => by simp [ah]
 | [], i + 1 => by simp [ah]
 | x :: L, i + 1 => by
  rw [eu, List.take_succ_cons, eu, <- h.take L i, Nat.succ_mul, Nat.add_comm, List.take_append, h.len]
  rw [List.take_of_length_le (by rw [h.len]; omega), Nat.add_sub_cancel_left]
theorem dn.at (h : dn enc s) (L : List α) (d : α) (i k : Nat) (hi : i < L.length) (hk : k = s) : ((ah enc L).drop (i * s)).take k = enc (L.getD i d) := by
 subst hk
 rw [h.drop, List.drop_eq_getElem_cons hi, eu, List.take_left' (h.len _), List.getD_eq_getElem?_getD, List.getElem?_eq_getElem hi]
 rfl
theorem dn.at' (h : dn enc s) (L : List α) (d : α) (k : Int) (n : Nat) (hk : 0 <= k /\ k < L.length) (hn : n = s) : ((ah enc L).drop (k.toNat * s)).take n = enc (L.getD k.toNat d) := h.at L d k.toNat n af hn
end
theorem lP : dn aR 1 :=
 ⟨af, fun _ => rfl, fun x y h => by simp only [aR, List.cons.injEq, V.int.injEq, true_and, and_true] at h; exact UInt8.toNat_inj.1 af, fun _ => rfl⟩
def aW (s : List UInt8) : List V := [.str s]
theorem dM : dn aW 1 := ⟨af, fun _ => rfl, fun x y h => by simpa [aW] using h, fun _ => rfl⟩
def aN (n : Int) : List V := [.int .i64 n]
theorem ej : dn aN 1 := ⟨af, fun _ => rfl, fun x y h => by simpa [aN] using h, fun _ => rfl⟩
abbrev ab {α : Type} (enc : α -> List V) (L : List α) : V := .dsl L.length false (ah enc L)
theorem cQ {n : Int} (h : -9223372036854775808 <= n /\ n <= 9223372036854775807) : IntKind.i64.wrap n = n := IntWalk.i64_in _ af
theorem aj5 {n : Nat} (h : n <= 9223372036854775807) : IntKind.i64.wrap (n : Int) = n := IntWalk.i64_in _ af
theorem bE {n : Nat} (h : n < 9223372036854775807) : IntKind.i64.wrap ((n : Int) + 1) = ((n + 1 : Nat) : Int) := by rw [IntWalk.i64_in _ af]; simp
section
variable {P : Program}
theorem MD {hp : Hp} {b : Nat} {X Y : bM} (hb : hp[b]? = some (some X)) {k : Nat} {blk : bM} (h : (hp.set b (some Y))[k]? = some (some blk)) : (k = b /\ blk = Y) \/ (k ≠ b /\ hp[k]? = some (some blk)) := by
 rw [List.getElem?_set] at h
 split at h
 ·rename_i e
  split at h
  ·cases h; exact .inl ⟨e.symm, rfl⟩
  ·cases h
 ·rename_i e; exact .inr ⟨fun x => e x.symm, h⟩
theorem zW {hp : Hp} {b : Nat} {X Y : bM} (hb : hp[b]? = some (some X)) {k : Nat} {blk : bM} (h : (hp.set b (some Y))[k]? = some (some blk)) : ∃ bW, hp[k]? = some (some bW) := by
 rcases MD hb h with ⟨rfl, _⟩ | ⟨_, h⟩
 ·exact ⟨_, hb⟩
 ·exact ⟨_, h⟩
theorem wo {hp : Hp} {b : Nat} {X Y : bM} (hb : hp[b]? = some (some X)) {k : Nat} {blk : bM} (h : hp[k]? = some (some blk)) : ∃ bW, (hp.set b (some Y))[k]? = some (some bW) := by
 rw [List.getElem?_set]
 split
 ·rename_i e
  rw [if_pos (by subst e; exact eV hb)]
  exact ⟨_, rfl⟩
 ·exact ⟨_, h⟩
theorem CR.rT {I : Nat -> Prop} {μ : Mu} {w : World} : ∀ {l : List V} {vs : List Value}, hasO l = false -> V.RL P I bY w (flat l) vs -> CR P I μ w [] l vs
 | [], vs, _, h => by
  simp only [flat, V.RL] at h
  exact CR.fp.2 ⟨rfl, h⟩
 | x :: t, vs, ho, h => by
  unfold hasO at ho
  rw [List.any_cons, Bool.or_eq_false_iff] at ho
  rcases fu x with ⟨o, c, rfl⟩ | hx
  ·rw [gF] at h
   have hl := h.length
   rw [List.length_append] at hl
   have Db : o = false := by cases o <;> first | rfl | simp [mkS] at ho
   subst Db
   refine CR.fM.2 ⟨vs.take c.length, vs.drop c.length, [], [], by simp, rfl, ⟨rfl, ?_⟩, CR.rT ho.2 ?_⟩
   ·have := h.take c.length
    rwa [List.take_left] at this
   ·have := h.drop c.length
    rwa [List.drop_left] at this
  ·rw [eW hx] at h
   simp only [V.RL] at h
   obtain ⟨u, us, rfl, h1, h2⟩ := h
   exact (CR.eF hx).2 ⟨u, us, [], [], rfl, rfl, sf (sj h1), CR.rT ho.2 h2⟩
theorem Holds.rT {I : Nat -> Prop} {μ : Mu} {w : World} {b : Nat} {c : List V} {T : TypeId} (hT : dQ T = true) (ho : hasO c = false) (h : Holds P I μ w b ([.aJ (flat c)], T)) : Holds P I μ w b (c, T) := by
 rcases h with ⟨g, cs, fr, k1, k2, k3, k4, ⟨k5, k6⟩, k7, k8⟩ | h
 ·simp only [yA] at k5 k6
  obtain ⟨us, cD, e, h1, h2⟩ := CR.EI.1 k6
  obtain ⟨hF, rfl⟩ := CR.fp.1 h2
  rw [List.append_nil] at e
  refine .inl ⟨g, cs, fr, k1, k2, k3, k4, ⟨k5, ?_⟩, k7, k8⟩
  rw [hF, e]
  exact CR.rT ho h1
 ·rcases h with h | ⟨_, _, _, _, _, _, _, e, _⟩
  ·exact .inr (.inl h)
  ·have e2 := congrArg Prod.snd e
   simp only at e2
   subst e2; simp [dQ, kV] at hT
theorem Holds.ag9 {I : Nat -> Prop} {μ : Mu} {w : World} {b : Nat} {c : List V} {T : TypeId} (hT : dQ T = true) (ho : hasO c = false) (h : Holds P I μ w b (c, T)) (hr : V.refsL c = []) : Holds P I μ w b ([.aJ (flat c)], T) := by
 rcases h with ⟨g, cs, fr, k1, k2, k3, k4, ⟨k5, k6⟩, k7, k8⟩ | h
 ·refine .inl ⟨g, cs, fr, k1, k2, k3, k4, ⟨by simpa only [yA] using k5, ?_⟩, k7, k8⟩
  simp only [yA]
  obtain ⟨hF, h1⟩ := k6.zy hr ho
  rw [hF]
  exact CR.zU h1
 ·rcases h with h | ⟨_, _, _, _, _, _, _, e, _⟩
  ·exact .inr (.inl h)
  ·have e2 := congrArg Prod.snd e
   simp only at e2
   subst e2; simp [dQ, kV] at hT
theorem ao.rT {f : FuncId} {vs : List V} {hp : Hp} {r : aj} {b : Nat} {c : List V} {T : TypeId} (ho : hasO c = false) (h : ao P f vs hp r) (hb : hp[b]? = some (some ([.aJ (flat c)], T))) (hr : V.refsL c = []) (hw : b ∉ r.wr) (hT : dQ T = true := by rfl) :
  ao P f vs (hp.set b (some (c, T))) ⟨r.v, r.hp.set b (some (c, T)), r.wr⟩ := by
 obtain ⟨ht, ny⟩ := h
 have bI := eV hb
 have qR : r.hp[b]? = some (some ([.aJ (flat c)], T)) := by rw [ht.frame b bI hw]; exact hb
 constructor
 ·refine ⟨by simpa using ht.len, fun k hk hn => ?_, fun k hk => by simpa using ht.AE k hk, fun k hk ⟨blk, du⟩ => ?_⟩
  ·simp only [List.length_set] at hk
   show (r.hp.set b _)[k]? = _
   rw [List.getElem?_set, List.getElem?_set]
   split
   ·simp [eV qR, bI]
   ·exact ht.frame k hk hn
  ·simp only [List.length_set] at hk
   obtain ⟨bW, h0⟩ := zW qR du
   obtain ⟨oo, h1⟩ := ht.alive k hk ⟨bW, h0⟩
   exact wo hb h1
 ·intro I w μ ch kr pre dO
  simp only [List.length_set] at pre dO
  have pre' : cK P I μ w hp (List.range hp.length) r.hp.length := by
   refine ⟨pre.dj, fun k hk blk eO => ?_, fun k hk j hj b1 b2 g bp h1 h2 g1 g2 => ?_, fun k h1 h2 => pre.fresh k (by simpa using h1) h2⟩
   ·by_cases e : k = b
    ·subst e
     rw [hb] at eO; cases eO
     exact (pre.holds k hk (c, T) (by rw [List.getElem?_set, if_pos rfl, if_pos bI])).ag9 hT ho hr
    ·exact pre.holds k hk blk (by rw [List.getElem?_set, if_neg (fun x => e x.symm)]; exact eO)
   ·obtain ⟨_, k1⟩ := wo (Y := (c, T)) hb h1
    obtain ⟨_, k2⟩ := wo (Y := (c, T)) hb h2
    exact pre.inj k hk j hj _ _ g bp k1 k2 g1 g2
  refine (ny I w μ ch kr pre' dO).mono fun e w' ⟨val, μ', I', he, hR, G⟩ => ⟨val, μ', I', he, hR, ?_⟩
  refine ⟨G.dq, fun k hk => ?_, G.cr, G.le, fun k g hg => by simpa using G.cz k g hg, fun k hk hn => G.cT k hk (by simpa using hn), fun k hk blk eO => ?_, fun k hk blk eO g hg => ?_, fun k j b1 b2 g bp hk hj h1 h2 g1 g2 => ?_⟩
  ·rcases G.ei k hk with h | h | ⟨d, h1, h2, ⟨blk, h3⟩⟩
   ·exact .inl h
   ·exact .inr (.inl h)
   ·exact .inr (.inr ⟨d, h1, h2, wo hb h3⟩)
  ·simp only [List.length_set] at hk
   rcases MD qR eO with ⟨rfl, rfl⟩ | ⟨_, eO⟩
   ·exact (G.holds k hk _ qR).rT hT ho
   ·exact G.holds k hk blk eO
  ·simp only [List.length_set] at hk
   obtain ⟨bW, k1⟩ := zW qR eO
   rcases G.dI k hk bW k1 g hg with h | ⟨d, h1, h2, ⟨blk, h3⟩⟩
   ·exact .inl h
   ·exact .inr ⟨d, h1, h2, wo hb h3⟩
  ·simp only [List.length_set] at hk hj
   obtain ⟨_, k1⟩ := zW qR h1
   obtain ⟨_, k2⟩ := zW qR h2
   exact G.inj k j _ _ g bp hk hj k1 k2 g1 g2
theorem ao.more {f : FuncId} {vs : List V} {hp : Hp} {r : aj} {wr : List Nat} (h : ao P f vs hp r) (h1 : ∀ b ∈ r.wr, b ∈ wr) (h2 : ∀ b ∈ wr, b < hp.length) : ao P f vs hp ⟨r.v, r.hp, wr⟩ := by
 obtain ⟨ht, ny⟩ := h
 refine ⟨⟨ht.len, fun b hb hn => ht.frame b hb fun h => hn (h1 b h), h2, ht.alive⟩, fun I w μ ch kr pre dO => (ny I w μ ch kr pre dO).mono fun e w' ⟨val, μ', I', he, hR, G⟩ => ⟨val, μ', I', he, hR, ?_⟩⟩
 refine ⟨G.dq, fun k hk => ?_, G.cr.mono fun k ⟨b, hb, hg⟩ => ⟨b, h1 b hb, hg⟩, G.le, G.cz, fun b hb hn => G.cT b (fun h => hb (h1 b h)) hn, G.holds, fun k hk blk eO g hg => ?_, G.inj⟩
 ·rcases G.ei k hk with h | h | ⟨d, k1, k2⟩
  ·exact .inl h
  ·exact .inr (.inl h)
  ·exact .inr (.inr ⟨d, h1 d k1, k2⟩)
 ·by_cases hc : hp.length <= k \/ k ∈ r.wr
  ·rcases G.dI k hc blk eO g hg with h | ⟨d, k1, k2⟩
   ·exact .inl h
   ·exact .inr ⟨d, h1 d k1, k2⟩
  ·simp only [not_or, Nat.not_le] at hc
   have dD : k ∈ wr := hk.resolve_left af
   refine .inr ⟨k, dD, ?_, blk, by rw [<- ht.frame k hc.1 hc.2]; exact eO⟩
   rcases hg with hg | hg
   ·rcases G.cz k g hg with h | ⟨h, _⟩
    ·exact .inl h
    ·omega
   ·rw [G.cT k hc.2 af] at hg; exact .inr hg
def xV (r' r : aj) : Prop := r'.v = r.v /\ r'.hp = r.hp /\ ∀ b ∈ r'.wr, b ∈ r.wr
theorem bh {E : Env} (hm : E.P.follows .mixedOrders = true) (hn : dA E.P) {mode : Nat} {f : FuncId} {vs : List V} {hp : Hp} {r : aj} {t : T aj} (e : fnT E mode f vs hp = t) (hw : ∀ b ∈ r.wr, b < hp.length) (h : t.WP (xV · r)) : ao E.P f vs hp r := by
 subst e
 obtain ⟨r', h1, h2, h3, h4⟩ := Cu hm hn h
 have := h1.more h4 hw
 rw [h2, h3] at this
 exact this
end
theorem aQ {a b : aj} (h1 : a.v = b.v := by exact rfl) (h2 : a.hp = b.hp := by exact rfl) (h3 : ∀ x ∈ a.wr, x ∈ b.wr := by simp) : xV a b := ⟨h1, h2, h3⟩
section
variable {β : Type}
def forceVsC (l : List V) (k : List V -> β) : β :=
 match l with
 | [] => k []
 | x :: xs => my x fun y => forceVsC xs fun ys => k (y :: ys)
theorem H2 : ∀ (l : List V) (k : List V -> β), forceVsC l k = k l
 | [], _ => rfl
 | x :: xs, k => by unfold forceVsC; rw [qy, H2 xs]
def forceHC (hp : Hp) (k : Hp -> β) : β :=
 match hp with
 | [] => k []
 | none :: t => forceHC t fun t => k (none :: t)
 | some (cs, ty) :: t => forceVsC cs fun cs => forceHC t fun t => k (some (cs, ty) :: t)
theorem yB : ∀ (hp : Hp) (k : Hp -> β), forceHC hp k = k hp
 | [], _ => rfl
 | none :: t, k => by unfold forceHC; rw [yB t]
 | some (cs, ty) :: t, k => by unfold forceHC; rw [H2, yB t]
def OU : Op -> Bool
 | .alloc _ => true
 | .box _ _ => true
 | .buildSlice _ _ _ => true
 | .makeSlice _ _ _ => true
 | .store _ _ _ => true
 | .call _ => true
 | .convert _ _ _ => true
 | _ => false
def forceO (o : Op) (hp : Hp) (k : Hp -> β) : β := match OU o with
 | true => forceHC hp k
 | false => k hp
theorem QI (o : Op) (hp : Hp) (k : Hp -> β) : forceO o hp k = k hp := by
 unfold forceO; split
 ·exact yB _ _
 ·rfl
noncomputable def traceC (P : Program) (callF : fG) (ops : Array Oper) : List Oper -> St -> List Rec -> (List Rec -> St -> Option β) -> Option β
 | [], s, acc, k => k acc s
 | o :: rest, s, acc, k => match wantedV ops s.tm o with
  | some true => match evOp P callF (evalV s.tm) s.hp o.op with
   | some out => my out.v fun v => lU s.tm o.dst v fun tm => forceO o.op out.hp fun hp => traceC P callF ops rest ⟨tm, hp, forceW out.wr s.wr⟩ ((s, out.acc, out.wr) :: acc) k
   | none => none
  | some false => lU s.tm o.dst (.lit undef) fun tm => traceC P callF ops rest ⟨tm, s.hp, s.wr⟩ ((s, [], []) :: acc) k
  | none => none
def iterC (step : St -> (Ex -> St -> Option β) -> Option β) (k : Ex -> St -> Option β) : Nat -> St -> Option β
 | 0, _ => none
 | n + 1, s => step s fun ex s' => match ex with
  | .normal => iterC step k n s'
  | .exit i => k (.exit i) s'
  | .ret => k .ret s'
noncomputable def codeC (P : Program) (callF : fG) (n : Nat) : Code -> St -> (Ex -> St -> Option β) -> Option β
 | .skip, s, k => k .normal s
 | .region _ ops draw, s, k => traceC P callF ops ops.toList s [] fun l s2 => match draw with
  | false => k .normal s2
  | true => match sG ops l.reverse s2 with
   | true => k .normal s2
   | false => none
 | .seq x y, s, k => codeC P callF n x s fun ex s' => match ex with
  | .normal => codeC P callF n y s' k
  | .exit i => k (.exit i) s'
  | .ret => k .ret s'
 | .cond c x y, s, k => match evalV s.tm c with
  | .bool true => codeC P callF n x s k
  | .bool false => codeC P callF n y s k
  | _ => none
 | .block id body, s, k => codeC P callF n body s fun ex s' => k (outEx id ex) s'
 | .loop body, s, k => iterC (codeC P callF n body) k n s
 | .exit id, s, k => k (.exit id) s
 | .ret, s, k => k .ret s
 | _, _, _ => none
end
def qz (P : Program) (m : Nat) (ids : List Nat) (v : V) (s : St) : aj := ⟨frz P s.hp ids m 100 v, (fe P m [] ids s).hp, (fe P m [] ids s).wr⟩
def Jq (m : Nat) (frozen : Bool) (v : List V) (hp : Hp) : List Nat := match frozen with
 | true => List.range m
 | false => reach hp 100000 (V.refsL v ++ (hp.take m).flatMap fun (x : Option bM) => match x with | some blk => V.refsL blk.1 | none => []) (List.range m)
noncomputable def fnC (P : Program) (callF : fG) (n : Nat) (frozen : FuncId -> Bool) : fG := fun f vs hp =>
 match P.funcs[f]? with
 | some fn => match fn.body with
  | some c => codeC P callF n c ⟨Tm.start (vs.length + (fn.ntmps - vs.length)) vs, hp, []⟩ fun ex s => match ex with
   | .exit _ => none
   | _ => match evResultL P s.hp s.tm fn.results.toList with
    | some v => match ib hp.length (Jq hp.length (frozen f) v s.hp) with
     | true => match qz P hp.length (Jq hp.length (frozen f) v s.hp) (oneOf v) s with
      | ⟨v, h, w⟩ => my v fun v => forceHC h fun h => some ⟨v, h, w⟩
     | false => none
    | none => none
  | none => none
 | none => none
noncomputable def deepC (P : Program) (ext : fG) (n : Nat) (frozen : FuncId -> Bool) : Nat -> fG
 | 0 => fun _ _ _ => none
 | d + 1 => fun f vs hp => match ext f vs hp with
  | some r => some r
  | none => fnC P (deepC P ext n frozen d) n frozen f vs hp
section
variable {P : Program} {callF : fG} {β : Type}
theorem FB (hn : dA P) (hb : kE P callF) (hc : jf P callF) {ops : Array Oper} : ∀ {os : List Oper} {s : St} {acc : List Rec} {k : List Rec -> St -> Option β} {r : β}, traceC P callF ops os s acc k = some r ->
  ∃ l s2, me P ops os s l s2 /\ k (l.reverse ++ acc) s2 = some r
 | [], s, acc, k, r, h => ⟨[], s, .nil s, by simpa [traceC] using h⟩
 | o :: rest, s, acc, k, r, h => by
  unfold traceC at h
  split at h
  ·rename_i hw
   split at h
   ·rename_i out ho
    simp only [qy, tN, QI, H4] at h
    obtain ⟨l, s2, h1, h2⟩ := FB hn hb hc h
    refine ⟨_, s2, .cons (.inl ⟨hw, out, uU hn hb hc ho, rfl, rfl, rfl⟩) h1, ?_⟩
    simpa using h2
   ·cases h
  ·rename_i hw
   simp only [tN] at h
   obtain ⟨l, s2, h1, h2⟩ := FB hn hb hc h
   refine ⟨_, s2, .cons (.inr ⟨hw, rfl, rfl, rfl⟩) h1, ?_⟩
   simpa using h2
  ·cases h
theorem Jw {m : Nat} {body : Code} {step : St -> (Ex -> St -> Option β) -> Option β} (hs : ∀ s k r, step s k = some r -> ∃ ex s', aV P m body s ex s' /\ k ex s' = some r) {k : Ex -> St -> Option β} {r : β} :
  ∀ (n : Nat) (s : St), iterC step k n s = some r -> ∃ ex s', a8 P m body s ex s' /\ k ex s' = some r
 | 0, s, h => by cases h
 | n + 1, s, h => by
  unfold iterC at h
  obtain ⟨ex, s', h1, h2⟩ := hs _ _ _ h
  cases ex with
  | normal =>
   obtain ⟨ex, s2, h3, h4⟩ := Jw hs n s' h2
   exact ⟨ex, s2, .step h1 h3, h4⟩
  | exit i => exact ⟨_, _, .done h1 (by simp), h2⟩
  | ret => exact ⟨_, _, .done h1 (by simp), h2⟩
theorem qh (hm : P.follows .mixedOrders = true) (hn : dA P) (hb : kE P callF) (hc : jf P callF) {m n : Nat} : ∀ {c : Code} {s : St} {k : Ex -> St -> Option β} {r : β}, codeC P callF n c s k = some r -> ∃ ex s', aV P m c s ex s' /\ k ex s' = some r
 | .skip, s, k, r, h => ⟨.normal, s, .skip, h⟩
 | .region id ops draw, s, k, r, h => by
  unfold codeC at h
  obtain ⟨l, s2, h1, h2⟩ := FB hn hb hc h
  cases draw with
  | false => exact ⟨_, _, .region hm hn h1 (fun h => by cases h), h2⟩
  | true =>
   simp only [List.append_nil, List.reverse_reverse] at h2
   split at h2
   ·rename_i hd; exact ⟨_, _, .region hm hn h1 (fun _ => hd), h2⟩
   ·cases h2
 | .seq x y, s, k, r, h => by
  unfold codeC at h
  obtain ⟨ex, s1, h1, h2⟩ := qh hm hn hb hc (m := m) h
  cases ex with
  | normal =>
   obtain ⟨ex, s2, h3, h4⟩ := qh hm hn hb hc (m := m) h2
   exact ⟨_, _, .seq h1 h3, h4⟩
  | exit i => exact ⟨_, _, .zV h1 (by simp), h2⟩
  | ret => exact ⟨_, _, .zV h1 (by simp), h2⟩
 | .cond c x y, s, k, r, h => by
  unfold codeC at h
  split at h
  ·rename_i hv
   obtain ⟨ex, s1, h1, h2⟩ := qh hm hn hb hc (m := m) h
   exact ⟨_, _, .cond (b := true) hv h1, h2⟩
  ·rename_i hv
   obtain ⟨ex, s1, h1, h2⟩ := qh hm hn hb hc (m := m) h
   exact ⟨_, _, .cond (b := false) hv h1, h2⟩
  ·cases h
 | .block id body, s, k, r, h => by
  unfold codeC at h
  obtain ⟨ex, s1, h1, h2⟩ := qh hm hn hb hc (m := m) h
  exact ⟨_, _, .block h1, h2⟩
 | .loop body, s, k, r, h => by
  unfold codeC at h
  obtain ⟨ex, s', h1, h2⟩ := Jw (m := m) (body := body) (fun s k r h => qh hm hn hb hc (m := m) h) n s h
  exact ⟨_, _, .bg h1, h2⟩
 | .exit id, s, k, r, h => ⟨_, _, .exit, h⟩
 | .ret, s, k, r, h => ⟨_, _, .ret, h⟩
 | .rangeFunc _ _ _ _, _, _, _, h => by cases h
 | .scope _, _, _, _, h => by cases h
 | .label _, _, _, _, h => by cases h
 | .goto _, _, _, _, h => by cases h
 | .refuse _, _, _, _, h => by cases h
theorem QZ {aZ : Hp} {s : St} {v : V} {ids : List Nat} (hp : ib aZ.length ids = true) (C : SR aZ s) : xM aZ (qz P aZ.length ids v s) := by
 have C' := (re (P := P) (keep := []) hp).st aZ rfl C
 exact ⟨C'.len, fun b hb hn => C'.frame b hb hn, fun b hb => by simp only [qz, fe, List.mem_eraseDups, List.mem_filter, decide_eq_true_eq] at hb; exact hb.2, C'.alive⟩
theorem QY {aZ : Hp} {I0 Im : Nat -> Prop} {μ0 μ : Mu} {w0 w : World} {s : St} {a : Act} {v : V} {val : Value} {ids : List Nat} (hp : ib aZ.length ids = true) (C : CI P aZ I0 μ0 w0 s a w Im μ) (hv : V.R P Im μ w v val) :
  ∃ μr Ir, V.R P Ir μr w (qz P aZ.length ids v s).v val /\ Good P I0 Ir μ0 μr w0 w aZ (qz P aZ.length ids v s).hp (List.range aZ.length) (qz P aZ.length ids v s).wr := by
 obtain ⟨Ir, μr, C', hV⟩ := (re (keep := []) hp).run rfl C
 obtain ⟨μ2, hle, G⟩ := C'.jl
 exact ⟨μ2, Ir, (hV _ _ hv).keep (.refl w (fun _ => False)) (.refl _) hle, G⟩
theorem QD {f : FuncId} {fn : Func} {c : Code} {vs : List V} {hp : Hp} {ex : Ex} {s : St} {v : List V} {r : aj} (gW : P.funcs[f]? = some fn) (hc : fn.body = some c)
  (h : aV P hp.length c ⟨Tm.start (vs.length + (fn.ntmps - vs.length)) vs, hp, []⟩ ex s) (hex : ex = .normal \/ ex = .ret) (vK : evResultL P s.hp s.tm fn.results.toList = some v)
  {ids : List Nat} (lI : ib hp.length ids = true) (hr : qz P hp.length ids (oneOf v) s = r) : ao P f vs hp r := by
 subst hr
 exact HU gW hc h hex vK (fun cG => QZ lI cG) fun C hR => QY lI C hR
theorem QB (hm : P.follows .mixedOrders = true) (hn : dA P) (hb : kE P callF) (hc : jf P callF) {n : Nat} {frozen : FuncId -> Bool} : jf P (fnC P callF n frozen) := by
 intro f vs hp r h
 unfold fnC at h
 split at h
 ·rename_i fn gW
  split at h
  ·rename_i c tf
   obtain ⟨ex, s, h1, h2⟩ := qh hm hn hb hc (m := hp.length) h
   split at h2
   ·cases h2
   ·rename_i hex
    split at h2
    ·rename_i v hv
     split at h2
     ·rename_i bm
      simp only [qy, yB, Option.some.injEq] at h2
      refine QD gW tf h1 ?_ hv bm ?_
      ·cases ex with
       | normal => exact .inl rfl
       | ret => exact .inr rfl
       | exit i => exact absurd rfl (hex i)
      ·rw [<- h2]
     ·cases h2
    ·cases h2
  ·cases h
 ·cases h
theorem QA {n : Nat} {frozen : FuncId -> Bool} : kE P (fnC P callF n frozen) := by
 intro f vs hp r h
 unfold fnC at h
 split at h
 ·rename_i fn gW
  split at h
  ·rename_i c tf
   exact ⟨fn, gW, by rw [tf]; rfl⟩
  ·cases h
 ·cases h
theorem Hh (hm : P.follows .mixedOrders = true) (hn : dA P) {ext : fG} (hb : kE P ext) (hc : jf P ext) {n : Nat} {frozen : FuncId -> Bool} : ∀ d, jf P (deepC P ext n frozen d) /\ kE P (deepC P ext n frozen d)
 | 0 => ⟨fun _ _ _ _ h => (nomatch h), fun _ _ _ _ h => (nomatch h)⟩
 | d + 1 => by
  obtain ⟨h1, h2⟩ := Hh hm hn hb hc (n := n) (frozen := frozen) d
  constructor
  ·intro f vs hp r h
   unfold deepC at h
   split at h
   ·rename_i he; cases h; exact hc _ _ _ _ he
   ·exact QB hm hn h2 h1 _ _ _ _ h
  ·intro f vs hp r h
   unfold deepC at h
   split at h
   ·rename_i he; exact hb _ _ _ _ he
   ·exact QA _ _ _ _ h
end
end Go.Proofs.YtlomaojlpodibaaGreat
namespace Go.Proofs
open Go.Shelf
set_option maxRecDepth 100000
def Tryz.lays106_ren : Go.Shelf.Ren := ⟨fun | 106 => 246 | 213 => 275 | 265 => 284 | n => n, fun | 9 => 9 | 3 => 3 | n => n, fun | n => n⟩
theorem Tryz.lays106 : Go.Proofs.Lays.n106 Tryz.prog Tryz.lays106_ren where
 mixed := by kernel_rfl
 f106 := Tryz.func246.trans (congrArg some (by kernel_rfl))
 f213 := Tryz.func275.trans (congrArg some (by kernel_rfl))
 f265 := Tryz.func284.trans (congrArg some (by kernel_rfl))
 t3 := Tryz.underlying3
 a3 := Tryz.isAgg3
 z3 := Tryz.sizeOf3
 v3 := Tryz.zeroValue3
 t9 := Tryz.underlying9
 a9 := Tryz.isAgg9
 z9 := Tryz.sizeOf9
 v9 := Tryz.zeroValue9
end Go.Proofs
namespace Go.Proofs.YtlomaojlpodibaaGreat
open Go.RowKit
set_option maxRecDepth 100000
def runN {α β : Type} (step : Nat -> α -> α ⊕ β) : Nat -> Nat -> α -> α ⊕ β
 | 0, _, a => .inl a
 | k + 1, i, a => match step i a with
  | .inl a' => runN step k (i + 1) a'
  | .inr b => .inr b
def s9 {α : Type} (step : Nat -> α -> α) : Nat -> Nat -> α -> α
 | 0, _, a => a
 | k + 1, i, a => s9 step k (i + 1) (step i a)
def allN (jl : Nat -> Bool) : Nat -> Nat -> Bool
 | 0, _ => true
 | k + 1, i => jl i && allN jl k (i + 1)
theorem mf (jl : Nat -> Bool) : ∀ k i, allN jl k i = true ↔ ∀ j, i <= j -> j < i + k -> jl j = true
 | 0, i => by simp [allN]; intro j h1 h2; omega
 | k + 1, i => by
  rw [allN, Bool.and_eq_true, mf jl k (i + 1)]
  constructor
  ·rintro ⟨h1, h2⟩ j h3 h4
   rcases Nat.lt_or_ge i j with h | h
   ·exact h2 j af af
   ·obtain rfl : j = i := af
    exact h1
  ·intro h
   exact ⟨h i (Nat.le_refl _) af, fun j h1 h2 => h j af af⟩
theorem om {α : Type} (p : α -> Bool) (d : α) (L : List α) : allN (fun i => p (L.getD i d)) L.length 0 = L.all p := by
 rw [Bool.eq_iff_iff, mf, List.all_eq_true]
 constructor
 ·intro h x hx
  obtain ⟨j, hj, rfl⟩ := List.getElem_of_mem hx
  have := h j af af
  rwa [List.getD_eq_getElem?_getD, List.getElem?_eq_getElem hj] at this
 ·intro h j _ hj
  rw [List.getD_eq_getElem?_getD, List.getElem?_eq_getElem af]
  exact h _ (List.getElem_mem _)
section
variable {E : Env} {m : Nat} {nf : Ex -> Kp} {c : Code}
def N1 {α β : Type} (st : Nat -> α -> St) (inv : Nat -> α -> Prop) (ex' : Ex) (sr : β -> St) (i : Nat) (s : α ⊕ β) (x : Ex × St) : Prop := match s with
 | .inl a' => x = (.normal, st (i + 1) a') /\ inv (i + 1) a'
 | .inr b => x = (ex', sr b)
theorem T.WP.mono {α : Type} {Q R : α -> Prop} (h : ∀ a, Q a -> R a) : ∀ {t : T α}, t.WP Q -> t.WP R
 | .done a, k => h a k
 | .ag _ t, k => ⟨k.1, T.WP.mono h k.2⟩
 | .bind _ _, k => fun y hy => T.WP.mono h (k y hy)
 | .fail, k => k
theorem T.WP.const {α : Type} {Q : α -> Prop} {p : Prop} : ∀ {t : T α}, t.WP (fun a => Q a /\ p) -> p
 | .done _, k => k.2
 | .ag _ _, k => T.WP.const k.2
 | .bind v _, k => T.WP.const (k v rfl)
 | .fail, k => k.elim
theorem Zw {α β : Type} {st : Nat -> α -> St} {n : Nat} (inv : Nat -> α -> Prop) (step : Nat -> α -> α ⊕ β) {t : Nat -> α -> T (Ex × St)} {ex ex' : Ex} {sx : α -> St} {sr : β -> St}
  (hm : E.P.follows .mixedOrders = true) (hn : dA E.P) (hx : ex ≠ .normal) (ju : ex' ≠ .normal) (e : ∀ i a, bx E m nf c (st i a) = t i a)
  (h : ∀ i a, i < n -> inv i a -> (t i a).WP (N1 st inv ex' sr i (step i a)))
  (he : ∀ a, inv n a -> (t n a).WP (· = (ex, sx a))) : ∀ (k i : Nat) (a : α), i + k = n -> inv i a ->
   match runN step k i a with
   | .inl a' => a8 E.P m c (st i a) ex (sx a') /\ inv n a'
   | .inr b => a8 E.P m c (st i a) ex' (sr b)
 | 0, i, a, hi, ha => by
  obtain rfl : i = n := af
  exact ⟨.done (iN hm hn (e i a) (he a ha)) hx, ha⟩
 | k + 1, i, a, hi, ha => by
  have h1 := h i a af ha
  unfold runN
  cases hs : step i a with
  | inl a' =>
   rw [hs] at h1
   have ih := Zw inv step hm hn hx ju e h he k (i + 1) a' af h1.const
   have hb := iN hm hn (e i a) (h1.mono fun _ h => h.1)
   simp only
   cases hr : runN step k (i + 1) a' with
   | inl a2 => rw [hr] at ih; exact ⟨.step hb ih.1, ih.2⟩
   | inr b => rw [hr] at ih; exact .step hb ih
  | inr b =>
   rw [hs] at h1
   exact .done (iN hm hn (e i a) h1) ju
theorem HY {α : Type} {st : Nat -> α -> St} {n : Nat} (inv : Nat -> α -> Prop) (step : Nat -> α -> α) {t : Nat -> α -> T (Ex × St)} {ex : Ex} {sx : α -> St}
  (hm : E.P.follows .mixedOrders = true) (hn : dA E.P) (hx : ex ≠ .normal) (e : ∀ i a, bx E m nf c (st i a) = t i a)
  (h : ∀ i a, i < n -> inv i a -> (t i a).WP (· = (.normal, st (i + 1) (step i a))) /\ inv (i + 1) (step i a))
  (he : ∀ a, inv n a -> (t n a).WP (· = (ex, sx a))) : ∀ (k i : Nat) (a : α), i + k = n -> inv i a -> a8 E.P m c (st i a) ex (sx (s9 step k i a)) /\ inv n (s9 step k i a)
 | 0, i, a, hi, ha => by
  obtain rfl : i = n := af
  exact ⟨.done (iN hm hn (e i a) (he a ha)) hx, ha⟩
 | k + 1, i, a, hi, ha => by
  have h1 := h i a af ha
  have ih := HY inv step hm hn hx e h he k (i + 1) (step i a) af h1.2
  exact ⟨.step (iN hm hn (e i a) h1.1) ih.1, ih.2⟩
theorem ij {st : Nat -> St} {n : Nat} (jl : Nat -> Bool) {t : Nat -> T (Ex × St)} {ex ex' : Ex} {sx sr : St}
  (hm : E.P.follows .mixedOrders = true) (hn : dA E.P) (hx : ex ≠ .normal) (ju : ex' ≠ .normal) (e : ∀ i, bx E m nf c (st i) = t i)
  (h : ∀ i, i < n -> (t i).WP (· = bif jl i then (.normal, st (i + 1)) else (ex', sr)))
  (he : (t n).WP (· = (ex, sx))) : ∀ (k i : Nat), i + k = n -> (allN jl k i = true -> a8 E.P m c (st i) ex sx) /\ (allN jl k i = false -> a8 E.P m c (st i) ex' sr)
 | 0, i, hi => by
  obtain rfl : i = n := af
  exact ⟨fun _ => .done (iN hm hn (e i) he) hx, fun h => by simp [allN] at h⟩
 | k + 1, i, hi => by
  have h1 := h i af
  have ih := ij jl hm hn hx ju e h he k (i + 1) af
  unfold allN
  cases hg : jl i with
  | true =>
   rw [hg] at h1
   have hb := iN hm hn (e i) h1
   rw [Bool.true_and]
   exact ⟨fun h => .step hb (ih.1 h), fun h => .step hb (ih.2 h)⟩
  | false =>
   rw [hg] at h1
   refine ⟨fun h => by simp at h, fun _ => .done (iN hm hn (e i) h1) ju⟩
end
end Go.Proofs.YtlomaojlpodibaaGreat
namespace Go.Proofs.YtlomaojlpodibaaGreat
open Go.RowKit
set_option maxRecDepth 100000
def lnd (P : Program) (hp : Hp) : Nat -> V -> V
 | 0, _ => .b9
 | n + 1, v => match v with
  | .sl b off k full => match hp[b]? with
   | some (some blk) => match c7 blk.1 with
    | true => if Nat.beq off 0 then .dsl k false (frzSeg (lnd P hp n) blk.1) else .b9
    | false => match da P blk.2 with
     | some s => if ((blk.1.drop off).take (k * s)).length = k * s then .dsl k false (((blk.1.drop off).take (k * s)).map (lnd P hp n)) else .b9
     | none => .b9
   | _ => .b9
  | .ptr b off => match hp[b]? with
   | some (some blk) => match c7 blk.1 with
    | true => .b9
    | false => .dptr ((blk.1.drop off).map (lnd P hp n))
   | _ => .b9
  | .agg cs => .agg (cs.map (lnd P hp n))
  | .tup cs => .tup (cs.map (lnd P hp n))
  | .fn f cs => .fn f (cs.map (lnd P hp n))
  | .box f cs => .box f (cs.map (lnd P hp n))
  | .dsl k _ cs => .dsl k false cs
  | .osl _ k o cs => .dsl k false (fzS o cs)
  | .eptr _ _ _ => .b9
  | v => v
mutual
def V.bare : V -> Bool
 | .int _ _ => true
 | .bool _ => true
 | .str _ => true
 | .iI => true
 | .jX => true
 | .lit _ => true
 | .b9 => true
 | .dsl _ _ [] => true
 | .dsl 0 _ _ => true
 | .agg cs => V.bareL cs
 | .tup cs => V.bareL cs
 | _ => false
def V.bareL : List V -> Bool
 | [] => true
 | c :: cs => V.bare c && V.bareL cs
end
section
variable {P : Program} {I I2 : Nat -> Prop} {μ : Mu} {w : World} {hp : Hp}
theorem JI (b5 : Sub I I2) (hh : ∀ b blk, hp[b]? = some (some blk) -> Holds P I μ w b blk /\ ∀ g, μ.own b g -> I2 g) : ∀ (n : Nat) (c : V) (u : Value), V.R P I μ w c u -> V.R P I2 bY w (lnd P hp n c) u := by
 intro n
 induction n with
 | zero => intro c u _; simp [lnd, V.R]
 | succ n ih =>
  have jV : ∀ (cs : List V) (us : List Value), V.RL P I μ w cs us -> V.RL P I2 bY w (cs.map (lnd P hp n)) us := by
   intro cs
   induction cs with
   | nil => intro us h; simpa [V.RL] using h
   | cons c cs ks =>
    intro us h
    simp only [V.RL] at h
    obtain ⟨u, us', rfl, h1, h2⟩ := h
    simp only [List.map_cons, V.RL]
    exact ⟨u, us', rfl, ih c u h1, ks us' h2⟩
  have vS : ∀ (c : V) (F : List Nat) (u : Value), (∀ k ∈ F, I2 k) -> OX P I μ w F c u -> V.R P I2 bY w (lnd P hp n c) u := by
   intro c F u hF h
   cases hc : c.isO with
   | false => exact ih c u (h.plain hc).2
   | true =>
    unfold OX at h
    rw [hc] at h
    cases n with
    | zero => simp [lnd, V.R]
    | succ n =>
     have := CC b5 c F u hF h
     cases c <;> first | (simp [V.isO] at hc; done) | (rw [CB] at this; exact this)
  have zl : ∀ (cs : List V) (F : List Nat) (us : List Value), (∀ k ∈ F, I2 k) -> OXL P I μ w F cs us -> V.RL P I2 bY w (cs.map (lnd P hp n)) us := by
   intro cs
   induction cs with
   | nil => intro F us _ h; obtain ⟨_, rfl⟩ := h; simp [V.RL]
   | cons c cs ks =>
    intro F us hF h
    obtain ⟨u, us', F1, F2, rfl, rfl, h1, h2⟩ := h
    simp only [List.map_cons, V.RL]
    exact ⟨u, us', rfl, vS c F1 u (fun k hk => hF k (by simp [hk])) h1, ks F2 us' (fun k hk => hF k (by simp [hk])) h2⟩
  intro c u h
  unfold lnd
  split
  ·rename_i b off k full
   split
   ·rename_i blk hb
    obtain ⟨hH, qC⟩ := hh b blk hb
    split
    ·rename_i kQ
     split
     ·rename_i jq
      have Dd : off = 0 := by simpa using jq
      subst Dd
      simp only [V.R] at h ⊢
      rcases h with ⟨g, cap, e, N, i, hg, rfl, h1, h2, h3, c8, _⟩ | ⟨_, rfl, a', rfl, cY⟩
      ·obtain ⟨cs, fr, _, hw, _, ⟨h4, h5⟩, _⟩ := hH.kZ hg c8
       have h6 := yD (f := lnd P hp n) vS b5 (fun k hk => qC k (.inr hk)) h5
       have h7 := h6.length
       refine ⟨some ⟨g, 0, none⟩, cap, rfl, h1, by simp, .inr ⟨_, _, rfl⟩, .inr <| .inr ⟨g, 0, rfl, qC g (.inl hg), cs, _, fr, hw, ?_⟩⟩
       rw [List.drop_zero]
       rw [List.length_take, Nat.min_eq_left (by simpa using h4)] at h7
       rw [<- h7]
       exact h6
      ·exact ⟨a', 0, rfl, Nat.le_refl _, by simp, cY.imp (fun h => ⟨h, rfl⟩) id, .inr (.inl rfl)⟩
     ·simp [V.R]
    ·rename_i kQ
     have iD := iU kQ
     split
     ·rename_i sz cM
      split
      ·rename_i hl
       simp only [V.R] at h ⊢
       rcases h with ⟨g, cap, e, N, i, hg, rfl, h1, h2, h3, c8, _⟩ | ⟨_, rfl, a', rfl, cY⟩
       ·obtain ⟨cs, fr, _, hw, _, ⟨h4, h5⟩, _⟩ := hH.kZ hg c8
        have h5 := h5.la
        rw [iD] at h4 h5
        refine ⟨some ⟨g, off, none⟩, cap, rfl, h1, by simp, .inr ⟨_, _, rfl⟩, .inr <| .inr ⟨g, off, rfl, qC g (.inl hg), cs, _, fr, hw, ?_⟩⟩
        obtain ⟨F1, F2, ve, _, h6⟩ := h5.split off
        obtain ⟨F3, F4, CH, h6, _⟩ := h6.split (k * sz)
        rw [List.length_map, hl]
        have e1 : (cs.toList.drop off).take (k * sz) = ((cs.toList.take blk.1.length).drop off).take (k * sz) := by
         simp only [List.length_take, List.length_drop] at hl
         rw [List.drop_take, List.take_take, Nat.min_eq_left af]
        rw [e1]
        exact zl _ F3 _ (fun k hk => qC k (.inr (by rw [ve, CH]; simp [hk]))) h6
       ·exact ⟨a', 0, rfl, Nat.le_refl _, by simp, cY.imp (fun h => ⟨h, rfl⟩) id, .inr (.inl rfl)⟩
      ·simp [V.R]
     ·simp [V.R]
   ·simp [V.R]
  ·rename_i b off
   split
   ·rename_i blk hb
    obtain ⟨hH, qC⟩ := hh b blk hb
    split
    ·simp [V.R]
    ·rename_i kQ
     have iD := iU kQ
     simp only [V.R] at h ⊢
     obtain ⟨g, hg, rfl⟩ := h
     obtain ⟨cs, fr, _, hw, _, ⟨h4, h5⟩, _⟩ := hH.YW (by rw [kQ]; simp) hg
     have h5 := h5.la
     rw [iD] at h4 h5
     refine ⟨g, off, rfl, .inr ⟨qC g (.inl hg), cs, _, fr, hw, ?_⟩⟩
     obtain ⟨F1, F2, ve, _, h6⟩ := h5.split off
     have h7 := zl _ F2 _ (fun k hk => qC k (.inr (by rw [ve]; simp [hk]))) h6
     have e1 : (cs.toList.drop off).take (blk.1.drop off).length = (cs.toList.take blk.1.length).drop off := by
      rw [List.length_drop, List.drop_take]
     rw [List.length_map, e1]
     exact h7
   ·simp [V.R]
  ·simp only [V.R] at h ⊢; obtain ⟨vs, h1, h2⟩ := h; exact ⟨vs, h1, jV _ _ h2⟩
  ·simp only [V.R] at h ⊢; obtain ⟨vs, h1, h2⟩ := h; exact ⟨vs, h1, jV _ _ h2⟩
  ·simp only [V.R] at h ⊢; obtain ⟨vs, h1, h2⟩ := h; exact ⟨vs, h1, jV _ _ h2⟩
  ·simp only [V.R] at h ⊢; obtain ⟨vs, h1, h2⟩ := h; exact ⟨vs, h1, jV _ _ h2⟩
  ·simp only [V.R] at h ⊢
   obtain ⟨a, cap, h1, h2, _, h4, h5⟩ := h
   refine ⟨a, cap, h1, h2, by simp, h4, ?_⟩
   rcases h5 with h5 | h5 | ⟨g, off, k1, k2, k3⟩
   ·exact .inl h5
   ·exact .inr (.inl h5)
   ·obtain ⟨cells, e, fr, k4, k5⟩ := k3
    exact .inr <| .inr ⟨g, off, k1, b5 _ k2, cells, e, fr, k4, k5.keep (.refl w (fun _ => False)) b5 (df.refl _)⟩
  ·simp [V.R] at h
  ·simp [V.R]
  ·rename_i h1 h2 h3 h4 h5 h7 h6 h8 h9
   cases c
   case osl => exact absurd rfl (h8 _ _ _ _)
   case eptr => exact absurd rfl (h9 _ _ _)
   case ptr => exact absurd rfl (h2 _ _)
   case sl => exact absurd rfl (h1 _ _ _ _)
   case agg => exact absurd rfl (h3 _)
   case tup => exact absurd rfl (h4 _)
   case fn => exact absurd rfl (h5 _ _)
   case box => exact absurd rfl (h7 _ _)
   case dsl => exact absurd rfl (h6 _ _ _)
   case dptr => exact (h.keep (.refl w (fun _ => False)) b5 (df.refl _) : V.R P I2 μ w _ u) |> (fun h => by simpa only [V.R] using h)
   all_goals (first | (simp only [V.R] at h; done) | (simp only [V.R]; done) | (simp only [V.R] at h ⊢; exact h))
mutual
theorem Gq : ∀ (c : V) (u : Value), c.bare = true -> V.R P I μ w c u -> V.R P I2 bY w c u
 | .int _ _, _, _, h => by simpa only [V.R] using h
 | .bool _, _, _, h => by simpa only [V.R] using h
 | .str _, _, _, h => by simpa only [V.R] using h
 | .iI, _, _, h => by simpa only [V.R] using h
 | .jX, _, _, h => by simpa only [V.R] using h
 | .lit _, _, _, h => by simpa only [V.R] using h
 | .b9, _, _, _ => by simp only [V.R]
 | .dsl n f cs, _, hb, h => by
  simp only [V.R] at h ⊢
  obtain ⟨a, cap, h1, h2, h3, h4, _⟩ := h
  refine ⟨a, cap, h1, h2, h3, h4, ?_⟩
  cases cs with
  | nil => exact .inl rfl
  | cons x t => cases n with
   | zero => exact .inr (.inl rfl)
   | succ n => simp [V.bare] at hb
 | .agg cs, _, hb, h => by
  simp only [V.R] at h ⊢
  obtain ⟨vs, h1, h2⟩ := h
  exact ⟨vs, h1, Bs cs _ (by simpa only [V.bare] using hb) h2⟩
 | .tup cs, _, hb, h => by
  simp only [V.R] at h ⊢
  obtain ⟨vs, h1, h2⟩ := h
  exact ⟨vs, h1, Bs cs _ (by simpa only [V.bare] using hb) h2⟩
 | .ptr _ _, _, hb, _ => by simp [V.bare] at hb
 | .sl _ _ _ _, _, hb, _ => by simp [V.bare] at hb
 | .dptr _, _, hb, _ => by simp [V.bare] at hb
 | .aJ _, _, hb, _ => by simp [V.bare] at hb
 | .cu _, _, hb, _ => by simp [V.bare] at hb
 | .fn _ _, _, hb, _ => by simp [V.bare] at hb
 | .box _ _, _, hb, _ => by simp [V.bare] at hb
 | .eptr _ _ _, _, hb, _ => by simp [V.bare] at hb
 | .osl _ _ _ _, _, hb, _ => by simp [V.bare] at hb
theorem Bs : ∀ (cs : List V) (us : List Value), V.bareL cs = true -> V.RL P I μ w cs us -> V.RL P I2 bY w cs us
 | [], _, _, h => by simpa only [V.RL] using h
 | c :: cs, _, hb, h => by
  simp only [V.bareL, Bool.and_eq_true] at hb
  simp only [V.RL] at h ⊢
  obtain ⟨u, us, h1, h2, h3⟩ := h
  exact ⟨u, us, h1, Gq c u hb.1 h2, Bs cs us hb.2 h3⟩
end
end
theorem ao.DL {P : Program} {f : FuncId} {vs cD : List V} {hp : Hp} {v : V} (k : Nat) (e : vs.map (lnd P hp k) = cD) (h : ao P f cD [] ⟨v, [], []⟩) (hv : v.bare = true) : ao P f vs hp ⟨v, hp, []⟩ := by
 subst e
 obtain ⟨_, ny⟩ := h
 refine ⟨⟨Nat.le_refl _, fun _ _ _ => rfl, by simp, fun _ _ h => h⟩, fun I w μ ch kr pre dO => ?_⟩
 let I2 : Nat -> Prop := fun k => I k \/ ∃ b blk, hp[b]? = some (some blk) /\ μ.own b k
 have hI : Sub I I2 := fun k hk => .inl hk
 have jO : ∀ b blk, hp[b]? = some (some blk) -> Holds P I μ w b blk := fun b blk hb => pre.holds b (by simpa using (List.getElem?_eq_some_iff.1 hb).1) blk hb
 have Dv : V.RL P I2 bY w (vs.map (lnd P hp k)) ch.toList := by
  have hl : ∀ (cs : List V) (us : List Value), V.RL P I μ w cs us -> V.RL P I2 bY w (cs.map (lnd P hp k)) us := by
   intro cs
   induction cs with
   | nil => intro us h; simpa [V.RL] using h
   | cons c cs ks =>
    intro us h
    simp only [V.RL] at h
    obtain ⟨u, us', rfl, h1, h2⟩ := h
    simp only [List.map_cons, V.RL]
    exact ⟨u, us', rfl, JI hI (fun b blk hb => ⟨jO b blk hb, fun g hg => .inr ⟨b, blk, hb, hg⟩⟩) k c u h1, ks us' h2⟩
  exact hl _ _ kr
 have kx : cK P I2 bY w [] (List.range ([] : Hp).length) 0 := by
  refine ⟨pre.dj.step (.refl w (fun _ => False)) hI fun k hk => ?_, fun b hb => by simp at hb, fun b hb => by simp at hb, fun b _ hb => af⟩
  rcases hk with hk | ⟨b, blk, hb, hg⟩
  ·exact pre.dj k hk
  ·exact (jO b blk hb).lt hg
 refine (ny I2 w bY ch Dv kx (fun b g h => by cases h)).mono fun e w' ⟨val, μ', I', he, hR, G⟩ => ⟨val, μ, I, he, sj (Gq v val hv hR), ?_⟩
 have hE : cy I w w' (fun _ => False) := (G.cr.less hI).mono fun j ⟨b, hb, _⟩ => by simp at hb
 refine ⟨.refl _, fun k hk => .inl hk, hE.mono (fun _ h => h.elim), .refl _, fun b g h => .inl h, fun _ _ _ => rfl, fun b hb blk bu => ?_, fun b hb blk bu => ?_, fun b c b1 b2 g bp hb hc h1 h2 => pre.inj b (by simpa using (List.getElem?_eq_some_iff.1 h1).1) c (by simpa using (List.getElem?_eq_some_iff.1 h2).1) b1 b2 g bp h1 h2⟩
 ·exact (jO b blk bu).keep hE (.refl _) (.refl _) (fun h => h) rfl (fun _ _ h => h) fun g hg => (jO b blk bu).ku hg
 ·rcases hb with hb | hb
  ·rw [List.getElem?_eq_none hb] at bu; cases bu
  ·cases hb
theorem ao.u9 {P : Program} {f : FuncId} {vs cD : List V} {hp : Hp} {v : V} (k : Nat) (e : vs.map (lnd P hp k) = cD) (h : ao P f cD [] ⟨v, [], []⟩) : ao P f vs hp ⟨v, hp.map fun _ => none, List.range hp.length⟩ := by
 subst e
 obtain ⟨_, ny⟩ := h
 have gG : ∀ b blk, (hp.map fun _ => (none : Option bM))[b]? = some (some blk) -> False := fun b blk h => by
  rw [List.getElem?_map] at h
  obtain ⟨x, _, h⟩ := Option.map_eq_some_iff.1 h
  cases h
 refine ⟨⟨by simp, fun b hb hn => absurd (List.mem_range.2 hb) hn, fun b hb => by simpa using hb, fun b hb ⟨blk, h⟩ => (gG b blk h).elim⟩, fun I w μ ch kr pre dO => ?_⟩
 let I2 : Nat -> Prop := fun k => I k \/ ∃ b blk, hp[b]? = some (some blk) /\ μ.own b k
 have hI : Sub I I2 := fun k hk => .inl hk
 have jO : ∀ b blk, hp[b]? = some (some blk) -> Holds P I μ w b blk := fun b blk hb => pre.holds b (by simpa using (List.getElem?_eq_some_iff.1 hb).1) blk hb
 have Dv : V.RL P I2 bY w (vs.map (lnd P hp k)) ch.toList := by
  have hl : ∀ (cs : List V) (us : List Value), V.RL P I μ w cs us -> V.RL P I2 bY w (cs.map (lnd P hp k)) us := by
   intro cs
   induction cs with
   | nil => intro us h; simpa [V.RL] using h
   | cons c cs ks =>
    intro us h
    simp only [V.RL] at h
    obtain ⟨u, us', rfl, h1, h2⟩ := h
    simp only [List.map_cons, V.RL]
    exact ⟨u, us', rfl, JI hI (fun b blk hb => ⟨jO b blk hb, fun g hg => .inr ⟨b, blk, hb, hg⟩⟩) k c u h1, ks us' h2⟩
  exact hl _ _ kr
 have kx : cK P I2 bY w [] (List.range ([] : Hp).length) 0 := by
  refine ⟨pre.dj.step (.refl w (fun _ => False)) hI fun k hk => ?_, fun b hb => by simp at hb, fun b hb => by simp at hb, fun b _ hb => af⟩
  rcases hk with hk | ⟨b, blk, hb, hg⟩
  ·exact pre.dj k hk
  ·exact (jO b blk hb).lt hg
 refine (ny I2 w bY ch Dv kx (fun b g h => by cases h)).mono fun e w' ⟨val, μ', I', he, hR, G⟩ => ⟨val, μ, I', he, ?_, ?_⟩
 ·refine hR.keep (.refl w' (fun _ => False)) (.refl _) (fun b g hb => ?_)
  rcases G.cz b g hb with h | ⟨h1, h2⟩
  ·cases h
  ·simp at h2
 ·refine ⟨fun k hk => G.dq k (.inl hk), fun k hk => ?_, (G.cr.less hI).mono fun j ⟨b, hb, _⟩ => by simp at hb, .refl _, fun b g h => .inl h, fun _ _ _ => rfl, fun b hb blk bu => (gG b blk bu).elim, fun b hb blk bu => (gG b blk bu).elim, fun b c b1 b2 g bp hb hc h1 => (gG b b1 h1).elim⟩
  rcases G.ei k hk with (h | ⟨b, blk, hb, hg⟩) | h | ⟨c, h1, _⟩
  ·exact .inl h
  ·exact .inr (.inr ⟨b, by simpa using (List.getElem?_eq_some_iff.1 hb).1, hg, blk, hb⟩)
  ·exact .inr (.inl h)
  ·simp at h1
end Go.Proofs.YtlomaojlpodibaaGreat
namespace Go.Proofs.YtlomaojlpodibaaGreat
open Go.RowKit
set_option maxRecDepth 100000
structure At where
 kind : Int
 n : Int
 t : List UInt8
 deriving DecidableEq
instance : Inhabited At := ⟨⟨0, 0, []⟩⟩
def At.zero : At := ⟨0, 0, []⟩
def ak (a : At) : List V := [.int .i64 a.kind, .int .i64 a.n, .str a.t]
theorem bq : dn ak 3 := ⟨af, fun _ => rfl, fun x y h => by
 cases x; cases y
 simpa [ak] using h, fun _ => rfl⟩
def m6 {α : Type} (enc : α -> List V) (L : List α) : List V := [ab enc L]
theorem dn.slice {α : Type} {enc : α -> List V} {s : Nat} (h : dn enc s) : dn (m6 enc) 1 := ⟨af, fun _ => rfl, fun x y e => by
 simp only [m6, ab, List.cons.injEq, V.dsl.injEq, true_and, and_true] at e
 exact h.inj _ _ e.2, fun _ => rfl⟩
abbrev aU : Type := List At
abbrev a7 : aU -> List V := m6 ak
theorem bV : dn a7 1 := bq.slice
structure Rw where
 id : Int
 cells : List aU
 deriving DecidableEq
instance : Inhabited Rw := ⟨⟨0, []⟩⟩
def Rw.zero : Rw := ⟨0, []⟩
def av (r : Rw) : List V := [.int .i64 r.id, ab a7 r.cells]
theorem bN : dn av 2 := ⟨af, fun _ => rfl, fun x y h => by
 cases x; cases y
 simp only [av, ab, List.cons.injEq, V.int.injEq, V.dsl.injEq, true_and, and_true] at h
 obtain ⟨h1, _, h2⟩ := h
 simp only [Rw.mk.injEq]
 exact ⟨h1, bV.inj _ _ h2⟩, fun _ => rfl⟩
abbrev aI : List Rw -> List V := m6 av
theorem bB : dn aI 1 := bN.slice
structure aM where
 ar : List (List Rw)
 next : Int
 deriving DecidableEq
def aP (x : aM) : List V := [ab aI x.ar, .int .i64 x.next]
structure bt where
 name : List UInt8
 kind : Int
 min : Int
 max : Int
 low : Int
 high : Int
 ref : List UInt8
 eR : Bool
 deriving DecidableEq
def bt.zero : bt := ⟨[], 0, 0, 0, 0, 0, [], false⟩
def ba (c : bt) : List V := [.str c.name, .int .i64 c.kind, .int .i64 c.min, .int .i64 c.max, .int .i64 c.low, .int .i64 c.high, .str c.ref, .bool c.eR]
theorem cR : dn ba 8 := ⟨af, fun _ => rfl, fun x y h => by
 cases x; cases y
 simpa [ba] using h, fun _ => rfl⟩
structure Tb where
 name : List UInt8
 aw : List bt
 uniq : List Int
 root : Bool
 deriving DecidableEq
def Tb.zero : Tb := ⟨[], [], [], false⟩
def aq (t : Tb) : List V := [.str t.name, ab ba t.aw, ab aN t.uniq, .bool t.root]
theorem bJ : dn aq 4 := ⟨af, fun _ => rfl, fun x y h => by
 cases x; cases y
 simp only [aq, ab, List.cons.injEq, V.str.injEq, V.bool.injEq, V.dsl.injEq, true_and, and_true] at h
 obtain ⟨h1, ⟨_, h2⟩, ⟨_, h3⟩, h4⟩ := h
 simp only [Tb.mk.injEq]
 exact ⟨h1, cR.inj _ _ h2, ej.inj _ _ h3, h4⟩, fun _ => rfl⟩
abbrev aS : Type := List Tb
end Go.Proofs.YtlomaojlpodibaaGreat
namespace Go.Proofs.YtlomaojlpodibaaGreat.Fr
set_option maxRecDepth 100000
end Go.Proofs.YtlomaojlpodibaaGreat.Fr
namespace Go.Proofs.YtlomaojlpodibaaGreat
open Go.RowKit
set_option maxRecDepth 100000
structure a6 where
 aG : List UInt8
 func : Int
 val : aU
 deriving DecidableEq
def a6.zero : a6 := ⟨[], 0, []⟩
def aH (c : a6) : List V := [.str c.aG, .int .i64 c.func, ab ak c.val]
theorem cg : dn aH 3 := ⟨af, fun _ => rfl, fun x y h => by
 cases x; cases y
 simp only [aH, ab, List.cons.injEq, V.int.injEq, V.str.injEq, V.dsl.injEq, true_and, and_true] at h
 obtain ⟨h1, h2, _, h3⟩ := h
 simp only [a6.mk.injEq]
 exact ⟨h1, h2, bq.inj _ _ h3⟩, fun _ => rfl⟩
noncomputable def bw (name : List UInt8) (cs us : List V) (root : Bool) : Tb := ⟨name, ae ba cs, ae aN us, root⟩
theorem cm (t : Tb) : bw t.name (ah ba t.aw) (ah aN t.uniq) t.root = t := by unfold bw; rw [cR.ae, ej.ae]
structure Sx where
 aG : List UInt8
 val : aU
 names : List (List UInt8)
 deriving DecidableEq
def Sx.zero : Sx := ⟨[], [], []⟩
def aT (c : Sx) : List V := [.str c.aG, ab ak c.val, ab aW c.names]
theorem dX : dn aT 3 := ⟨af, fun _ => rfl, fun x y h => by
 cases x; cases y
 simp only [aT, ab, List.cons.injEq, V.int.injEq, V.str.injEq, V.dsl.injEq, true_and, and_true] at h
 obtain ⟨h1, ⟨_, h2⟩, _, h3⟩ := h
 simp only [Sx.mk.injEq]
 exact ⟨h1, bq.inj _ _ h2, dM.inj _ _ h3⟩, fun _ => rfl⟩
abbrev Mt : Type := a6
abbrev b8 : Mt -> List V := aH
structure Op' where
 kind : Int
 table : List UInt8
 name : List UInt8
 bC : List a6
 row : List Sx
 db : List Mt
 aw : List (List UInt8)
 iO : Bool
 deriving DecidableEq
def Op'.zero : Op' := ⟨0, [], [], [], [], [], [], false⟩
def aY (o : Op') : List V := [.int .i64 o.kind, .str o.table, .str o.name, ab aH o.bC, ab aT o.row, ab b8 o.db, ab aW o.aw, .bool o.iO]
theorem jW : dn aY 8 := ⟨af, fun _ => rfl, fun x y h => by
 cases x; cases y
 simp only [aY, ab, List.cons.injEq, V.int.injEq, V.str.injEq, V.bool.injEq, V.dsl.injEq, true_and, and_true] at h
 obtain ⟨h1, h2, h3, ⟨_, h4⟩, ⟨_, h5⟩, ⟨_, h6⟩, ⟨_, h7⟩, h8⟩ := h
 simp only [Op'.mk.injEq]
 exact ⟨h1, h2, h3, cg.inj _ _ h4, dX.inj _ _ h5, cg.inj _ _ h6, dM.inj _ _ h7, h8⟩, fun _ => rfl⟩
structure dB where
 code : Int
 count : Int
 id : Int
 aw : List (List UInt8)
 rows : List Rw
 deriving DecidableEq
def cZ (r : dB) : List V := [.int .i64 r.code, .int .i64 r.count, .int .i64 r.id, ab aW r.aw, ab av r.rows]
theorem DK : dn cZ 5 := ⟨af, fun _ => rfl, fun x y h => by
 cases x; cases y
 simp only [cZ, ab, List.cons.injEq, V.int.injEq, V.dsl.injEq, true_and, and_true] at h
 obtain ⟨h1, h2, h3, ⟨_, h4⟩, _, h5⟩ := h
 simp only [dB.mk.injEq]
 exact ⟨h1, h2, h3, dM.inj _ _ h4, bN.inj _ _ h5⟩, fun _ => rfl⟩
noncomputable def rh (kind : Int) (table name : List UInt8) (ws rs ms cs : List V) (iO : Bool) : Op' := ⟨kind, table, name, ae aH ws, ae aT rs, ae aH ms, ae aW cs, iO⟩
theorem KY (o : Op') : rh o.kind o.table o.name (ah aH o.bC) (ah aT o.row) (ah aH o.db) (ah aW o.aw) o.iO = o := by
 unfold rh; rw [cg.ae, dX.ae, cg.ae, dM.ae]
def bz (n lo hi : Int) : Bool := decide (lo <= n) && decide (n <= hi)
def Eo (c : UInt8) : Bool := decide (32 <= c.toNat) && decide (c.toNat <= 126)
def pC (t : List UInt8) : Bool := t.all (fun c => decide (32 <= c.toNat) && decide (c.toNat <= 126)) && decide (t.length <= 200)
def rb (b : Int) : Bool := decide (97 <= b) && decide (b <= 122) || (decide (65 <= b) && decide (b <= 90) || b == 95)
def ra (c : UInt8) : Bool := rb (c.toNat : Nat)
def sF (b : Int) : Bool := decide (48 <= b) && decide (b <= 57)
def Hi (c : UInt8) : Bool := sF (c.toNat : Nat)
def pz (t : List UInt8) (i : Nat) : Bool := ra (t.getD i 0) || (!(i == 0) && Hi (t.getD i 0))
def ia (t : List UInt8) : Bool := allN (pz t) t.length 0 && bz t.length 1 40
def tJ (n : Int) : Bool := bz n (-1000000000) 1000000000
def lN (n : Int) : Bool := bz n 1 1000000
def fk (a : At) : Bool :=
 bif a.kind == 1 then tJ a.n && a.t.isEmpty
 else bif a.kind == 2 then a.n == 0 && pC a.t
 else bif a.kind == 3 then bz a.n 0 1 && a.t.isEmpty
 else bif a.kind == 4 then lN a.n && a.t.isEmpty
 else false
def uO (a b : Int) : Int := bif decide (a < b) then -1 else 1
def x4 (a b : List UInt8) : Int := bif Op.bytesLess a b then -1 else 1
def jI (a b : At) : Int := bif a.kind != b.kind then uO a.kind b.kind else bif a.n != b.n then uO a.n b.n else bif a.t != b.t then x4 a.t b.t else 0
def fidx {α : Type} (p : α -> Bool) : List α -> Nat -> Int
 | [], _ => -1
 | x :: xs, i => bif p x then (i : Int) else fidx p xs (i + 1)
def bf (t : Tb) (nm : List UInt8) : Int := fidx (fun c : bt => c.name == nm) t.aw 0
def cV (s : aS) (nm : List UInt8) : Int := fidx (fun t : Tb => t.name == nm) s 0
def cX (c : bt) (d : aU) : Int :=
 bif decide (0 < d.length) && !((d.getD 0 .zero).kind == c.kind) then 9
 else bif !bz d.length c.min c.max then 6
 else bif c.kind == 1 && d.any (fun a => !bz a.n c.low c.high) then 4
 else 0
def Y4 : cP := fun _ _ _ => none
noncomputable def AB : Vw := fun t cs i =>
 bif Nat.beq t 5 then some (aR ((ae aR cs).getD i 0))
 else bif Nat.beq t 9 then some (aW ((ae aW cs).getD i []))
 else bif Nat.beq t 3 then some (aN ((ae aN cs).getD i 0))
 else none
noncomputable def E0 : Env := { P := Tryz.prog, vw := AB, res := Y4 }
abbrev BZ : Nat := 185
abbrev af8 : Nat := 138
structure Src where
 l : List UInt8
 k : Nat
 s : Int
structure Src.OK (x : Src) (c : Nat) : Prop where
 hl : x.l.length <= 1048576
 hk : x.k + c <= 1099511627776
 h0 : 0 <= x.s
 h1 : x.s < 2147483648
def au (x : Src) : Option bM := some ([ab aR x.l, .int .i64 x.k, .int .i64 x.s], af8)
def fI (x : Src) : Int × Src :=
 if x.k + 1 <= x.l.length then ((x.l.getD x.k 0).toNat, ⟨x.l, x.k + 1, (x.s * 31 + (x.l.getD x.k 0).toNat + 7).tmod 2147483648⟩)
 else if 3000 < x.k + 1 then (0, ⟨x.l, x.k + 1, x.s⟩)
 else ((((x.s * 1103515245 + 12345).tmod 2147483648).tdiv 65536).tmod 256, ⟨x.l, x.k + 1, (x.s * 1103515245 + 12345).tmod 2147483648⟩)
theorem Av (a : Int) (h : 0 <= a) : 0 <= a.tmod 2147483648 /\ a.tmod 2147483648 < 2147483648 := ⟨Int.tmod_nonneg _ h, Int.tmod_lt_of_pos _ af⟩
theorem sw {x : Src} {c : Nat} (h : x.OK (c + 1)) : (fI x).2.OK c /\ 0 <= (fI x).1 /\ (fI x).1 < 256 := by
 obtain ⟨hl, hk, h0, h1⟩ := h
 unfold fI
 split
 ·have hb := (x.l.getD x.k 0).toNat_lt
  exact ⟨⟨hl, by simp only; omega, (Av _ (by omega)).1, (Av _ (by omega)).2⟩, by simp only; omega, by simp only; omega⟩
 ·split
  ·exact ⟨⟨hl, by simp only; omega, h0, h1⟩, by simp, by simp⟩
  ·have hb := Av (x.s * 1103515245 + 12345) (by omega)
   have hq := Int.tdiv_nonneg hb.1 (show (0 : Int) <= 65536 by omega)
   exact ⟨⟨hl, by simp only; omega, hb.1, hb.2⟩, Int.tmod_nonneg _ hq, Int.tmod_lt_of_pos _ (by omega)⟩
theorem Oy (x : Src) : fnT E0 0 BZ [.ptr 0 0] [au x] = (
 let q2 := (↑x.k : Int) + 1;
 let q4 := IntKind.i64.wrap q2 - 1;
 let q8 := IntKind.i64.wrap q4;
 let q := (↑(UInt8.toNat (List.getD (ae aR (ah aR x.l)) q8.toNat (0 : UInt8))) : Int);
 let q7 := (↑x.l.length : Int);
 let q1 : List Prop := [0 <= IntKind.i64.wrap q4 /\ IntKind.i64.wrap q4 < q7, List.take 1 (List.drop (q8.toNat * 1) (ah aR x.l)) = [.int .u8 q]];
 let q6 := (2147483648 : Int);
 let q3 := Int.tmod (IntKind.i64.wrap (IntKind.i64.wrap (x.s * 1103515245) + 12345)) q6;
 let q5 := IntKind.i64.wrap q2; bif decide (IntKind.i64.wrap q2 <= q7) then .ag q1 (.ag [q6 ≠ (0 : Int)] (.ag q1 (.done (aj.mk (aa (IntKind.i64.wrap q)) [some ([ab aR x.l, aa q5, aa (Int.tmod (IntKind.i64.wrap
  (IntKind.i64.wrap (IntKind.i64.wrap (x.s * 31) + IntKind.i64.wrap q) + 7)) q6)], 138)] [0])))) else bif decide (IntKind.i64.wrap q2 > 3000) then .done (aj.mk (aa 0) [some ([ab aR x.l, aa q5, aa x.s], 138)] [0]) else .ag [q6
  ≠ (0 : Int)] (.ag [(65536 : Int) ≠ (0 : Int)] (.ag [(256 : Int) ≠ (0 : Int)] (.done (aj.mk (aa (Int.tmod (IntKind.i64.wrap (Int.tdiv q3 (65536 : Int))) (256 : Int))) [some ([ab aR x.l, aa q5, aa q3], 138)] [0])))) : T _) := by kernel_rfl
theorem x2 (x : Src) {c : Nat} (h : x.OK (c + 1)) : ao Tryz.prog BZ [.ptr 0 0] [au x] ⟨.int .i64 (fI x).1, [au (fI x).2], [0]⟩ := by
 refine HT (E := E0) follows named (Oy x) ?_
 obtain ⟨hl, hk, h0, h1⟩ := h
 have hb := (x.l.getD x.k 0).toNat_lt
 have hw : IntKind.i64.wrap ((x.k : Int) + 1) = ((x.k + 1 : Nat) : Int) := bE (by omega)
 have lM : IntKind.i64.wrap (((x.k + 1 : Nat) : Int) - 1) = (x.k : Int) := by rw [cQ (by omega)]; omega
 simp only [az, T.WP, All, decide_eq_true_eq, decide_eq_false_iff_not, and_true, lP.ae, hw, lM, Int.toNat_natCast, fI, au]
 refine ⟨fun hc => ?_, fun hc => ⟨fun hd => ?_, fun hd => ?_⟩⟩
 ·rw [if_pos (by omega)]
  refine ⟨⟨by omega, lP.at x.l 0 x.k 1 (by omega) rfl⟩, by omega, ⟨by omega, lP.at x.l 0 x.k 1 (by omega) rfl⟩, ?_⟩
  simp (disch := omega) only [cQ]
 ·rw [if_neg (by omega), if_pos (by omega)]
 ·rw [if_neg (by omega), if_neg (by omega)]
  have hb := Av (x.s * 1103515245 + 12345) (by omega)
  have hq := Int.tdiv_nonneg hb.1 (show (0 : Int) <= 65536 by omega)
  have hq2 := Int.tdiv_le_self 65536 hb.1
  refine ⟨by omega, by omega, by omega, ?_⟩
  simp (disch := omega) only [cQ]
noncomputable def bc (cs : List V) (k s : Int) : Src := ⟨ae aR cs, k.toNat, s⟩
theorem dF (x : Src) : bc (ah aR x.l) (x.k : Int) x.s = x := by
 unfold bc; rw [lP.ae, Int.toNat_natCast]
abbrev kh : Nat := 103
noncomputable def Y6 : cP := fun f vs hp => match vs, hp with
 | [.ptr 0 0], [some ([.dsl _ _ cs, .int _ k, .int _ s], _)] => bif Nat.beq f BZ then some ⟨fI (bc cs k s), fun y => ⟨.int .i64 y.1, [au y.2], [0]⟩⟩ else none
 | _, _ => none
noncomputable def E1 : Env := { P := Tryz.prog, vw := AB, res := Y6 }
def aX (x : Src) (n : Int) : Int × Src :=
 if n <= 1 then (0, x)
 else if n <= 256 then ((fI x).1.tmod n, (fI x).2)
 else (((fI x).1 * 65536 + (fI (fI x).2).1 * 256 + (fI (fI (fI x).2).2).1).tmod n, (fI (fI (fI x).2).2).2)
theorem Src.OK.less {x : Src} {c d : Nat} (h : x.OK c) (hd : d <= c) : x.OK d := ⟨h.hl, by have := h.hk; omega, h.h0, h.h1⟩
theorem dx {x : Src} {c : Nat} {n : Int} (h : x.OK (c + 3)) (hn : 1 <= n) : (aX x n).2.OK c /\ 0 <= (aX x n).1 /\ (aX x n).1 < n := by
 have h1 := sw (c := c + 2) h
 have h2 := sw (c := c + 1) h1.1
 have h3 := sw (c := c) h2.1
 unfold aX
 split
 ·exact ⟨h.less af, by simp, by simp only; omega⟩
 ·split
  ·exact ⟨h1.1.less af, Int.tmod_nonneg _ h1.2.1, Int.tmod_lt_of_pos _ af⟩
  ·exact ⟨h3.1, Int.tmod_nonneg _ af, Int.tmod_lt_of_pos _ af⟩
theorem Wn (x : Src) (n : Int) : fnT E1 0 kh [.ptr 0 0, .int .i64 n] [au x] = (
 let q : Hp := [some ([ab aR x.l, aa (↑x.k : Int), aa x.s], 138)];
 let q1 := fI (bc (ah aR x.l) (↑x.k : Int) x.s); bif decide (n <= 1) then .done (aj.mk (aa 0) q []) else bif decide (n <= 256) then .bind q1 fun y0 =>
 let q2 : Hp := [some ([ab aR y0.2.l, aa (↑y0.2.k : Int), aa y0.2.s], 138)]; .ag [ao (Env.P E1) 185 [.ptr 0 0] q (aj.mk (aa y0.1) q2 [0])] (.ag [n ≠ (0 : Int)] (.done (aj.mk (aa (Int.tmod y0.1 n)) q2 [0]))) else .bind q1
  fun y1 =>
 let q3 : Hp := [some ([ab aR y1.2.l, aa (↑y1.2.k : Int), aa y1.2.s], 138)]; .ag [ao (Env.P E1) 185 [.ptr 0 0] q (aj.mk (aa y1.1) q3 [0])] (.bind (fI (bc (ah aR y1.2.l) (↑y1.2.k : Int) y1.2.s)) fun y2 =>
 let q4 : Hp := [some ([ab aR y2.2.l, aa (↑y2.2.k : Int), aa y2.2.s], 138)]; .ag [ao (Env.P E1) 185 [.ptr 0 0] q3 (aj.mk (aa y2.1) q4 [0])] (.bind (fI (bc (ah aR y2.2.l) (↑y2.2.k : Int) y2.2.s)) fun y3 =>
 let q5 : Hp := [some ([ab aR y3.2.l, aa (↑y3.2.k : Int), aa y3.2.s], 138)]; .ag [ao (Env.P E1) 185 [.ptr 0 0] q4 (aj.mk (aa y3.1) q5 [0])] (.ag [n ≠ (0 : Int)] (.done (aj.mk (aa (Int.tmod (IntKind.i64.wrap
  (IntKind.i64.wrap (IntKind.i64.wrap (y1.1 * 65536) + IntKind.i64.wrap (y2.1 * 256)) + y3.1)) n)) q5 [0]))))) : T _) := by kernel_rfl
theorem fc (x : Src) (n : Int) {c : Nat} (h : x.OK (c + 3)) : ao Tryz.prog kh [.ptr 0 0, .int .i64 n] [au x] ⟨.int .i64 (aX x n).1, [au (aX x n).2], [0]⟩ := by
 refine bh (E := E1) follows named (Wn x n) (by simp) ?_
 have h1 := sw (c := c + 2) h
 have h2 := sw (c := c + 1) h1.1
 have h3 := sw (c := c) h2.1
 simp only [az, T.WP, All, decide_eq_true_eq, decide_eq_false_iff_not, and_true, dF, aX]
 refine ⟨fun hc => by rw [if_pos hc]; exact aQ, fun hc => ⟨fun hd y1 e1 => ?_, fun hd y1 e1 => ?_⟩⟩
 ·subst e1
  refine ⟨x2 x h, af, ?_⟩
  rw [if_neg hc, if_pos hd]; exact aQ
 ·subst e1
  refine ⟨x2 x h, fun y2 e2 => ?_⟩
  subst e2
  refine ⟨x2 _ h1.1, fun y3 e3 => ?_⟩
  subst e3
  refine ⟨x2 _ h2.1, af, ?_⟩
  rw [if_neg hc, if_neg hd]
  simp (disch := omega) only [cQ]
  exact aQ
abbrev uW : Nat := 105
abbrev sU : Nat := 150
noncomputable def Zc : cP := fun f vs hp => match vs, hp with
 | [.ptr 0 0, .int _ n], [some ([.dsl _ _ cs, .int _ k, .int _ s], _)] => bif Nat.beq f kh then some ⟨aX (bc cs k s) n, fun y => ⟨.int .i64 y.1, [au y.2], [0]⟩⟩ else none
 | _, _ => none
noncomputable def E2 : Env := { P := Tryz.prog, vw := AB, res := Zc }
def bo (x : Src) (n : Int) : Bool × Src := ((aX x n).1 == n - 1, (aX x n).2)
theorem OR (x : Src) (n : Int) : fnT E2 0 uW [.ptr 0 0, .int .i64 n] [au x] = (
 .bind (aX (bc (ah aR x.l) (↑x.k : Int) x.s) n) fun y0 =>
 let q : Hp := [some ([ab aR y0.2.l, aa (↑y0.2.k : Int), aa y0.2.s], 138)]; .ag [ao (Env.P E2) 103 [.ptr 0 0, aa n] [some ([ab aR x.l, aa (↑x.k : Int), aa x.s], 138)] (aj.mk (aa y0.1) q [0])] (.done (aj.mk (.bool
  (y0.1 == IntKind.i64.wrap (n - 1))) q [0])) : T _) := (T.force_eq _).symm.trans (by kernel_rfl)
theorem iS (x : Src) (n : Int) {c : Nat} (h : x.OK (c + 3)) (hn : 1 <= n /\ n <= 1000000) : ao Tryz.prog uW [.ptr 0 0, .int .i64 n] [au x] ⟨.bool (bo x n).1, [au (bo x n).2], [0]⟩ := by
 refine HT (E := E2) follows named (OR x n) ?_
 simp only [az, T.WP, All, decide_eq_true_eq, decide_eq_false_iff_not, and_true, dF, bo]
 intro y e
 subst e
 refine ⟨fc x n h, ?_⟩
 rw [cQ af]
 rfl
def Fm (L : List (List UInt8)) : Option bM := some ([.aJ (ah aW L)], 9)
def dH (x : Src) (L : List (List UInt8)) : List UInt8 × Src :=
 if L.length = 0 then ([], x) else (L.getD (aX x L.length).1.toNat [], (aX x L.length).2)
theorem Yk (x : Src) (L : List (List UInt8)) (full : Bool) : fnT E2 0 sU [.ptr 0 0, .sl 1 0 L.length full] [au x, Fm L] = (
 let q := ah aW L;
 let q1 := (↑L.length : Int);
 let q2 := (↑x.k : Int); bif q1 == 0 then .done (aj.mk (.str []) [some ([ab aR x.l, aa q2, aa x.s], 138), some ([.aJ q], 9)] []) else .bind (aX (bc (ah aR x.l) q2 x.s) q1) fun y0 =>
 let q3 := List.getD (ae aW q) ((0 + y0.1.toNat * 1) / 1) []; .ag [ao (Env.P E2) 103 [.ptr 0 0, aa q1] [some ([ab aR x.l, aa q2, aa x.s], 138)] (aj.mk (aa y0.1) [some ([ab aR y0.2.l, aa (↑y0.2.k : Int), aa
  y0.2.s], 138)] [0])] (.ag [0 <= y0.1 /\ y0.1 < q1] (.ag [List.take 1 (List.drop (0 + y0.1.toNat * 1) q) = [.str q3]] (.done (aj.mk (.str q3) [some ([ab aR y0.2.l, aa (↑y0.2.k : Int), aa y0.2.s], 138), some ([.aJ q], 9)]
  [0])))) : T _) := by kernel_rfl
theorem Yl (x : Src) (L : List (List UInt8)) (full : Bool) {c : Nat} (h : x.OK (c + 3)) : ao Tryz.prog sU [.ptr 0 0, .sl 1 0 L.length full] [au x, Fm L] ⟨.str (dH x L).1, [au (dH x L).2, Fm L], [0]⟩ := by
 refine bh (E := E2) follows named (Yk x L full) (by simp) ?_
 simp only [az, T.WP, All, decide_eq_true_eq, decide_eq_false_iff_not, and_true, dF, dH, yA, dM.ae, Nat.zero_add, Nat.mul_one, Nat.div_one, beq_iff_eq, beq_eq_false_iff_ne]
 refine ⟨fun hc => by rw [if_pos af]; exact aQ, fun hc y e => ?_⟩
 subst e
 have hn := dx (n := L.length) h af
 refine ⟨fc x _ h, hn.2, ?_, ?_⟩
 ·have := dM.at' L [] _ 1 hn.2 rfl
  rwa [Nat.mul_one] at this
 ·rw [if_neg af]; exact aQ
theorem rj {x : Src} {c : Nat} {L : List (List UInt8)} (h : x.OK (c + 3)) (hL : L ≠ []) : (dH x L).2.OK c /\ (dH x L).1 ∈ L := by
 unfold dH
 have hl : L.length ≠ 0 := by simpa using hL
 rw [if_neg hl]
 have hn := dx (n := L.length) h af
 refine ⟨hn.1, ?_⟩
 rw [List.getD_eq_getElem?_getD, List.getElem?_eq_getElem af]
 exact List.getElem_mem _
def jC : List V -> List (List UInt8)
 | .str s :: t => s :: jC t
 | _ => []
theorem zF (x : Src) (L : List (List UInt8)) (full : Bool) {n : Nat} {t : TypeId} {cells : List V} (hn : n = L.length) (ht : t = 9) (hc : cells = ah aW L) {c : Nat} (h : x.OK (c + 3)) : ao Tryz.prog sU [.ptr 0 0, .sl 1 0 n full] [au x, some (cells, t)] ⟨.str (dH x L).1, [au (dH x L).2, some (cells, t)], [0]⟩ := by
 subst hn ht hc
 have hf : flat (ah aW L) = ah aW L := by
  induction L with
  | nil => rfl
  | cons a L ih => rw [eu]; exact congrArg (V.str a :: ·) ih
 have hr : V.refsL (ah aW L) = [] := by
  clear hf
  induction L with
  | nil => rfl
  | cons a L ih => rw [eu]; simpa [aW, V.refsL, V.refs] using ih
 have := (Yl x L full h).rT (dM.hasO L) (b := 1) (c := ah aW L) (T := 9) (by rw [hf]; rfl) hr (by simp)
 simpa using this
end Go.Proofs.YtlomaojlpodibaaGreat

/-
  The ground for this claim's walks: rows of cells that are the call's own, 'append' onto them, bytes and strings, what a call may have turned.
  A small evaluator over values whose addresses are names: values, how they stand for the machine's values, what a step may change.
  The small evaluator: its plain operations.
  The small evaluator's plain operations do what the machine does.
  The small evaluator's operations on memory do what the machine does.
  The small evaluator's appends, conversions, slices and comparisons do what the machine does.
  The small evaluator's plain operations, all together.
  The small evaluator's plain operations: the whole.
  The small evaluator's plain operations: one law for all.
  The small evaluator: some more operations.
  The small evaluator: calls, regions, code, functions.
  The small evaluator: renaming and calls do what the machine does.
  The small evaluator: one operation of a region; the regions.
  The small evaluator: a region in whatever order.
  The small evaluator: regions.
-/
import Derived.Test.YtlomaojlpodibaaGreatRows
import Derived.WalkKit
import Derived.WalkSpells
import Derived.WalkLawsBesides
import Derived.BigQuiet
import Derived.Lib.Hide
import Derived.Deep.CutRange
import Derived.Deep.DeepCutAuto
import Derived.Deep.LoopGhost
import Derived.Lib.LaidTab
import Derived.Lib.ItoaNum
import Derived.Deep.MidRow
import Derived.Great.FillDense
import Derived.Laws.StructEq
import Derived.Laws.Cover3
import Derived.Laws.MakeOwn
import Derived.Laws.Slices
import Derived.LoopN
import Derived.Orders
namespace Go.Proofs.YtlomaojlpodibaaGreat
theorem aB (p : Prop) [Decidable p] : (decide p = true) = p := decide_eq_true_eq
theorem aC {p : Prop} [Decidable p] : (decide p = false) ↔ ¬ p := decide_eq_false_iff_not
theorem aD {α : Type _} [BEq α] [LawfulBEq α] {a b : α} : (a == b) = true ↔ a = b := beq_iff_eq
theorem aE {α : Type _} [BEq α] [LawfulBEq α] {a b : α} : (a == b) = false ↔ a ≠ b := beq_eq_false_iff_ne
theorem aK {p : Prop} (h : p := by (repeat' with_reducible apply And.intro) <;> first | omega | with_reducible rfl | assumption | exact True.intro | trivial | rfl) : p := h
theorem aA (p : Prop) : (p /\ True) = p := and_true p
theorem aF {α : Sort _} (a b : α) : (a ≠ b) = ¬ (a = b) := ne_eq a b
theorem bn {p : Prop} (h : p := by first | exact True.intro | exact rfl) : p := h
theorem af {p : Prop} (h : p := by omega) : p := h
open Go.RowKit
set_option maxRecDepth 100000
def Row (w : World) (g : Nat) (e : TypeId) (cur : Array Value) : Prop := ∃ fr : Nat × Nat, w.heap[g]? = some (.cells cur e fr) /\ (fr.2 <= fr.1 \/ cur.size <= fr.1)
section
variable {w w' : World} {g : Nat} {e : TypeId} {cur : Array Value}
theorem Row.lt (h : Row w g e cur) : g < w.heap.size := by
 obtain ⟨fr, h, _⟩ := h
 exact (Array.getElem?_eq_some_iff.1 h).1
theorem Row.cell (h : Row w g e cur) (i : Nat) : w.cell? ⟨g, i, none⟩ = cur[i]? := by
 obtain ⟨fr, h, _⟩ := h
 simp [World.cell?, h]
theorem Row.free (h : Row w g e cur) (i : Nat) (hi : i < cur.size) : w.frozen? ⟨g, i, none⟩ = false := by
 obtain ⟨⟨lo, iF⟩, h, k⟩ := h
 simp only [World.frozen?, h]
 simp only at k
 rcases k with k | k <;> simp <;> omega
theorem Row.aa9 (h : Row w g e cur) (next : Array Value) (hs : next.size = cur.size) : Row (w.setRow g next) g e next := by
 obtain ⟨fr, h, k⟩ := h
 exact ⟨fr, setRow_heap w g cur next e fr h, by rw [hs]; exact k⟩
end
theorem rL (P : Program) (g o : Nat) (t : TypeId) : ∀ (vs : List Value) (i : Nat) (cur : Array Value) (w : World), Row w g t cur -> o + i + vs.length <= cur.size -> (∀ v ∈ vs, v.oneCell' = true) ->
  (storeCells ⟨g, o, none⟩ vs i).run P w = .ok () (w.setRow g (cur.toList.take (o + i) ++ vs ++ cur.toList.drop (o + i + vs.length)).toArray)
 | [], i, cur, w, ⟨fr, hg, _⟩, _, _ => by
  simp only [storeCells, List.append_nil, List.length_nil, Nat.add_zero, List.take_append_drop, Array.toArray_toList]
  rw [setRow_self w g cur t fr hg]
  rfl
 | v :: rest, i, cur, w, hr, hl, h1 => by
  have hi : o + i < cur.size := by simp at hl; omega
  have Rj : (⟨g, o, none⟩ : Addr).add i = ⟨g, o + i, none⟩ := by unfold Addr.add; split <;> simp_all
  have lD : w.cell? ⟨g, o + i, none⟩ = some cur[o + i] := by rw [hr.cell]; simp [hi]
  have R1 : w.frozen? ⟨g, o + i, none⟩ = false := hr.free _ hi
  have cG : (store ((⟨g, o, none⟩ : Addr).add i) v).run P w = .ok () (w.setRow g (cur.setIfInBounds (o + i) v)) := by
   obtain ⟨fr, hg, _⟩ := hr
   rw [Rj, run_store P w _ v _ (h1 v (by simp)), lD]
   simp [R1, setCell_eq_setRow w g (o + i) cur t fr v hg]
  have ih := rL P g o t rest (i + 1) (cur.setIfInBounds (o + i) v) (w.setRow g (cur.setIfInBounds (o + i) v)) (hr.aa9 _ (by simp)) (by simp at hl ⊢; omega) (fun x hx => h1 x (by simp [hx]))
  simp only [storeCells, Sem.run_bind, cG, Result.andThen_ok, ih, setRow_setRow]
  congr 3
  have e := list_seg_step cur.toList (o + i) v rest (by simp at hl ⊢; omega)
  simpa [Array.toList_setIfInBounds, Nat.add_assoc] using e
def se (w : World) (a : Option Addr) (xs : List Value) : Prop := xs = [] \/ ∃ ad, a = some ad /\ ad.block < w.heap.size /\ ∀ j u, xs[j]? = some u -> w.cell? (ad.add j) = some u
section
variable {w w' : World} {lo : Nat} {e : TypeId} {size : Nat} {v : Value} {n : Nat} {xs : List Value}
end
section
variable {P : Program} {ops : Array Oper} {rest : List Oper} {o : Oper} {a : Act} {w : World} {Q : Exit -> Act -> World -> Prop} {K : Act -> World -> Prop}
end
def bv (l : List UInt8) : List Value := l.map fun b => .int .u8 b.toNat
theorem ED {P : Program} (w : World) (src dst e : TypeId) (hs : P.underlying src = some (.slice e)) (he : P.underlying e = some (.int .u8)) (hd : P.underlying dst = some .string)
  (a : Option Addr) (n cap : Nat) (l : List UInt8) (hn : n = l.length) (hl : se w a (bv l)) : (convert src dst (.slice a n cap)).run P w = .ok (.string ⟨l.toArray⟩) w := by
 subst hn
 rcases hl with h | ⟨ad, rfl, _, hc⟩
 ·have : l = [] := by simpa [bv] using h
  subst this
  cases a with
  | none => simp [convert, run_underlying hs, run_underlying hd, run_underlying he, Conv.bytesToString]; rfl
  | some ad => exact run_convert_bytes_back w src dst e ad cap [] hs he hd (by simp)
 ·exact run_convert_bytes_back w src dst e ad cap l hs he hd (fun j hj => hc j _ (by simp [bv, hj]))
theorem Q2 {w a : World} (h : w.grownBy a none) : Below w.heap.size w a := ⟨h.os, h.tape, h.output, h.size, fun k hk => h.block k hk (by simp)⟩
end Go.Proofs.YtlomaojlpodibaaGreat
namespace Go.Proofs.YtlomaojlpodibaaGreat
open Go.RowKit
set_option maxRecDepth 100000
inductive BK where
 | iface (t : TypeId)
 | bound (f : FuncId) (n : Nat)
 | map
def BK.mk : BK -> Array Value -> Value
 | .iface t, vs => .iface t (vs.getD 0 (.tuple #[]))
 | .bound f n, vs => .func (.func f) (vs.extract 0 n) (vs.extract n vs.size)
 | .map, vs => match vs.getD 0 (.tuple #[]) with
  | .pointer (some a) => .map (some a.block)
  | _ => .map none
inductive V where
 | int (k : IntKind) (n : Int)
 | bool (b : Bool)
 | str (s : List UInt8)
 | iI
 | ptr (b off : Nat)
 | sl (b off n : Nat) (full : Bool)
 | dsl (n : Nat) (full : Bool) (cs : List V)
 | dptr (cs : List V)
 | aJ (cs : List V)
 | cu (cs : List V)
 | agg (cs : List V)
 | tup (vs : List V)
 | fn (f : FuncId) (cap : List V)
 | box (k : BK) (cs : List V)
 | eptr (b base rel : Nat)
 | osl (T : TypeId) (n : Nat) (o : Bool) (cs : List V)
 | jX
 | lit (v : Value)
 | b9
abbrev bM := List V × TypeId
abbrev Hp := List (Option bM)
def ofScalar : Value -> V
 | .int k n => .int k n
 | .bool b => .bool b
 | .string s => .str s.data.toList
 | .pointer none => .iI
 | .slice none 0 0 => .dsl 0 true []
 | .nilFunc => .jX
 | .nilIface => .lit .nilIface
 | .map none => .lit (.map none)
 | _ => .b9
def ofValue : Value -> V
 | .agg cs => .agg (cs.toList.map ofScalar)
 | v => ofScalar v
mutual
def V.refs : V -> List Nat
 | .ptr b _ => [b]
 | .sl b _ _ _ => [b]
 | .agg cs => V.refsL cs
 | .tup cs => V.refsL cs
 | .fn _ cs => V.refsL cs
 | .box _ cs => V.refsL cs
 | .eptr b _ _ => [b]
 | _ => []
def V.refsL : List V -> List Nat
 | [] => []
 | c :: cs => V.refs c ++ V.refsL cs
end
structure Mu where
 nm : Nat -> Option Nat
 ft : Nat -> List Nat
instance : CoeFun Mu (fun _ => Nat -> Option Nat) := ⟨Mu.nm⟩
def Mu.own (μ : Mu) (b g : Nat) : Prop := μ b = some g \/ g ∈ μ.ft b
def bY : Mu := ⟨fun _ => none, fun _ => []⟩
def uG (v : Value) : Prop := ∃ a, v = .slice a 0 0 /\ (a = none \/ ∃ g off, a = some ⟨g, off, none⟩)
mutual
def V.R (P : Program) (I : Nat -> Prop) : Mu -> World -> V -> Value -> Prop
 | _, _, .int k n, v => v = .int k n
 | _, _, .bool b, v => v = .bool b
 | _, _, .str s, v => v = .string ⟨s.toArray⟩
 | _, _, .iI, v => v = .pointer none
 | μ, _, .ptr b off, v => ∃ g, μ b = some g /\ v = .pointer (some ⟨g, off, none⟩)
 | μ, w, .sl b off n full, v => (∃ g cap e N i, μ b = some g /\ v = .slice (some ⟨g, off, none⟩) n cap /\ n <= cap /\ cap <= maxLen /\ (full = true -> cap = n) /\ w.shape? g = some (e, N) /\ P.info? e = some i /\ off + cap * i.size <= N) \/ (off = 0 /\ n = 0 /\ uG v)
 | _, w, .dsl n full cs, v => ∃ a cap, v = .slice a n cap /\ n <= cap /\ (full = true -> cap = n) /\ (a = none /\ cap = 0 \/ ∃ g off, a = some ⟨g, off, none⟩) /\ (cs = [] \/ n = 0 \/ ∃ g off, a = some ⟨g, off, none⟩ /\ I g /\ ∃ cells e fr, w.heap[g]? = some (.cells cells e fr) /\ V.RL P I bY w cs ((cells.toList.drop off).take cs.length))
 | _, w, .dptr cs, v => ∃ g off, v = .pointer (some ⟨g, off, none⟩) /\ (cs = [] \/ I g /\ ∃ cells e fr, w.heap[g]? = some (.cells cells e fr) /\ V.RL P I bY w cs ((cells.toList.drop off).take cs.length))
 | μ, _, .eptr b base rel, v => ∃ g, μ b = some g /\ v = .pointer (some ⟨g, base + rel, none⟩)
 | _, _, .osl _ _ _ _, _ => False
 | _, _, .aJ _, _ => False
 | _, _, .cu _, _ => False
 | μ, w, .agg cs, v => ∃ vs, v = .agg vs /\ V.RL P I μ w cs vs.toList
 | μ, w, .tup cs, v => ∃ vs, v = .tuple vs /\ V.RL P I μ w cs vs.toList
 | μ, w, .fn f cap, v => ∃ vs, v = .func (.func f) #[] vs /\ V.RL P I μ w cap vs.toList
 | μ, w, .box k cs, v => ∃ vs, v = k.mk vs /\ V.RL P I μ w cs vs.toList
 | _, _, .jX, v => v = .nilFunc
 | _, _, .lit u, v => v = u
 | _, _, .b9, _ => True
def V.RL (P : Program) (I : Nat -> Prop) : Mu -> World -> List V -> List Value -> Prop
 | _, _, [], vs => vs = []
 | μ, w, c :: cs, vs => ∃ u us, vs = u :: us /\ V.R P I μ w c u /\ V.RL P I μ w cs us
end
section
variable {P : Program} {I I' : Nat -> Prop} {μ μ' : Mu} {w w' : World}
structure cy (I : Nat -> Prop) (w w' : World) (X : Nat -> Prop) : Prop where
 os : w'.os = w.os
 tape : w'.tape = w.tape
 output : w'.output = w.output
 size : w.heap.size <= w'.heap.size
 block : ∀ k, k < w.heap.size -> ¬ X k -> w'.heap[k]? = w.heap[k]?
 shape : ∀ k s, w.shape? k = some s -> w'.shape? k = some s
 pj : ∀ k, I k -> k < w.heap.size -> w'.heap[k]? = w.heap[k]?
def ar : List (String × IntKind × List Int) := [("internal/strconv.uint64pow10", .u64, Lib.pow10Tab)]
def BT : List String := ["strconv.ErrSyntax", "strconv.ErrRange"]
structure kF (P : Program) (I : Nat -> Prop) (w : World) : Prop where
 lt : ∀ k, I k -> k < w.heap.size
 laid : ∀ x ∈ ar, ∀ g, P.globalNamed x.1 = some g -> I g /\ Lib.TabIs P w x.1 x.2.1 x.2.2
 Ql : ∀ x ∈ BT, ∀ g, P.globalNamed x = some g -> I g /\ ∃ ev, w.cell? ⟨g, 0, none⟩ = some ev /\ (ev = .nilIface \/ ∃ te pe, ev = .iface te pe)
instance (P : Program) (I : Nat -> Prop) (w : World) : CoeFun (kF P I w) (fun _ => ∀ k, I k -> k < w.heap.size) := ⟨kF.lt⟩
theorem kF.step {P : Program} {w' : World} {X : Nat -> Prop} (h : kF P I w) (hE : cy I w w' X) (hs : ∀ k, I k -> I' k) (bO : ∀ k, I' k -> k < w'.heap.size) : kF P I' w' :=
 ⟨bO, fun x hx g hg => by
  obtain ⟨h1, h2⟩ := h.laid x hx g hg
  refine ⟨hs g h1, ?_⟩
  unfold Lib.TabIs World.var? at h2 ⊢
  rw [hg] at h2 ⊢
  simp only [Option.bind_some] at h2 ⊢
  rw [hE.pj g h1 (h.lt g h1)]; exact h2,
 fun x hx g hg => by
  obtain ⟨h1, ev, h2, h3⟩ := h.Ql x hx g hg
  refine ⟨hs g h1, ev, ?_, h3⟩
  unfold World.cell? at h2 ⊢
  rw [hE.pj g h1 (h.lt g h1)]; exact h2⟩
def Sub (I I' : Nat -> Prop) : Prop := ∀ k, I k -> I' k
def df (μ μ' : Mu) : Prop := ∀ b g, μ b = some g -> μ' b = some g
theorem Sub.refl (I : Nat -> Prop) : Sub I I := fun _ h => h
theorem cy.refl (w : World) (X : Nat -> Prop) : cy I w w X := ⟨rfl, rfl, rfl, Nat.le_refl _, fun _ _ _ => rfl, fun _ _ h => h, fun _ _ _ => rfl⟩
theorem cy.trans {a b c : World} {X Y : Nat -> Prop} (h : cy I a b X) (k : cy I' b c Y) (hI : Sub I I') (hY : ∀ j, j < a.heap.size -> Y j -> X j) : cy I a c X :=
 ⟨k.os.trans h.os, k.tape.trans h.tape, k.output.trans h.output, Nat.le_trans h.size k.size,
  fun j hj hn => (k.block j (Nat.lt_of_lt_of_le hj h.size) (fun hy => hn (hY j hj hy))).trans (h.block j hj hn), fun j s hs => k.shape j s (h.shape j s hs),
  fun j hi hj => (k.pj j (hI j hi) (Nat.lt_of_lt_of_le hj h.size)).trans (h.pj j hi hj)⟩
theorem cy.mono {a b : World} {X Y : Nat -> Prop} (h : cy I a b X) (Rh : ∀ j, X j -> Y j) : cy I a b Y :=
 ⟨h.os, h.tape, h.output, h.size, fun j hj hn => h.block j hj (fun hx => hn (Rh j hx)), h.shape, h.pj⟩
theorem cy.less {a b : World} {X : Nat -> Prop} (h : cy I' a b X) (hI : Sub I I') : cy I a b X :=
 ⟨h.os, h.tape, h.output, h.size, h.block, h.shape, fun k hk => h.pj k (hI k hk)⟩
theorem df.refl (μ : Mu) : df μ μ := fun _ _ h => h
theorem df.trans {a b c : Mu} (h : df a b) (k : df b c) : df a c := fun x g e => k x g (h x g e)
theorem mS {g : Nat} {cs : Array Value} {e : TypeId} {fr : Nat × Nat} (h : w.heap[g]? = some (.cells cs e fr)) : w.shape? g = some (e, cs.size) := by
 simp [World.shape?, h]
theorem ab5 {g : Nat} {s : TypeId × Nat} (h : w.shape? g = some s) : g < w.heap.size := by
 unfold World.shape? at h
 split at h
 ·rename_i hh; exact (Array.getElem?_eq_some_iff.1 hh).1
 ·cases h
theorem ab4 (w : World) (o : Obj) (k : Nat) (s : TypeId × Nat) (h : w.shape? k = some s) : (w.alloc o).shape? k = some s := by
 have := ab5 h
 unfold World.shape? at *
 rw [Below.heap_alloc w o k this]
 exact h
theorem cy.alloc (w : World) (o : Obj) (X : Nat -> Prop) : cy I w (w.alloc o) X :=
 ⟨rfl, rfl, rfl, by simp, fun k hk _ => Below.heap_alloc w o k hk, fun k s h => ab4 w o k s h, fun k _ hk => Below.heap_alloc w o k hk⟩
theorem cy.drew (w : World) (X : Nat -> Prop) : cy I w w.drew X := ⟨rfl, rfl, rfl, Nat.le_refl _, fun _ _ _ => rfl, fun _ _ h => h, fun _ _ _ => rfl⟩
theorem cy.setRow (w : World) (g : Nat) (eo cs : Array Value) (e : TypeId) (fr : Nat × Nat) (hg : w.heap[g]? = some (.cells eo e fr)) (hs : cs.size = eo.size) (hI : ¬ I g) : cy I w (w.setRow g cs) (fun k => k = g) := by
 refine ⟨rfl, rfl, rfl, by simp, fun k hk hn => setRow_other w g k cs hn, fun k s h => ?_, fun k hk _ => setRow_other w g k cs (by rintro rfl; exact hI hk)⟩
 by_cases IP : k = g
 ·subst IP
  rw [mS (setRow_heap w k eo cs e fr hg), hs, <- mS hg, h]
 ·unfold World.shape? at *
  rw [setRow_other w g k cs IP]
  exact h
mutual
theorem V.R.keep {X : Nat -> Prop} (hE : cy I w w' X) (hI : Sub I I') : ∀ {μ μ' : Mu} (_ : df μ μ') (c : V) (v : Value), V.R P I μ w c v -> V.R P I' μ' w' c v
 | _, _, hM, .int _ _, _, h => by simpa [V.R] using h
 | _, _, hM, .bool _, _, h => by simpa [V.R] using h
 | _, _, hM, .str _, _, h => by simpa [V.R] using h
 | _, _, hM, .iI, _, h => by simpa [V.R] using h
 | _, _, hM, .ptr _ _, _, h => by
  simp only [V.R] at h ⊢
  obtain ⟨g, hg, h⟩ := h
  exact ⟨g, hM _ _ hg, h⟩
 | _, _, hM, .sl _ _ _ _, _, h => by
  simp only [V.R] at h ⊢
  rcases h with ⟨g, cap, e, N, i, h1, h2, h3, h4, h5, h6, h7⟩ | h
  ·exact .inl ⟨g, cap, e, N, i, hM _ _ h1, h2, h3, h4, h5, hE.shape _ _ h6, h7⟩
  ·exact .inr h
 | _, _, hM, .dsl _ _ cs, _, h => by
  simp only [V.R] at h ⊢
  obtain ⟨a, cap, h1, h2, h3, vd, h4⟩ := h
  refine ⟨a, cap, h1, h2, h3, vd, ?_⟩
  rcases h4 with h4 | h4 | ⟨g, off, Ih, h4, cells, e, fr, h5, h6⟩
  ·exact .inl h4
  ·exact .inr (.inl h4)
  ·exact .inr <| .inr ⟨g, off, Ih, hI _ h4, cells, e, fr, (hE.pj g h4 (Array.getElem?_eq_some_iff.1 h5).1).trans h5, V.RL.keep hE hI (df.refl _) cs _ h6⟩
 | _, _, hM, .dptr cs, _, h => by
  simp only [V.R] at h ⊢
  obtain ⟨g, off, h1, h4⟩ := h
  refine ⟨g, off, h1, ?_⟩
  rcases h4 with h4 | ⟨h4, cells, e, fr, h5, h6⟩
  ·exact .inl h4
  ·exact .inr ⟨hI _ h4, cells, e, fr, (hE.pj g h4 (Array.getElem?_eq_some_iff.1 h5).1).trans h5, V.RL.keep hE hI (df.refl _) cs _ h6⟩
 | _, _, hM, .eptr _ _ _, _, h => by
  simp only [V.R] at h ⊢
  obtain ⟨g, hg, h⟩ := h
  exact ⟨g, hM _ _ hg, h⟩
 | _, _, hM, .osl _ _ _ _, _, h => by simp [V.R] at h
 | _, _, hM, .aJ _, _, h => by simp [V.R] at h
 | _, _, hM, .cu _, _, h => by simp [V.R] at h
 | _, _, hM, .agg cs, _, h => by
  simp only [V.R] at h ⊢
  obtain ⟨vs, h1, h2⟩ := h
  exact ⟨vs, h1, V.RL.keep hE hI hM cs _ h2⟩
 | _, _, hM, .tup cs, _, h => by
  simp only [V.R] at h ⊢
  obtain ⟨vs, h1, h2⟩ := h
  exact ⟨vs, h1, V.RL.keep hE hI hM cs _ h2⟩
 | _, _, hM, .fn _ cs, _, h => by
  simp only [V.R] at h ⊢
  obtain ⟨vs, h1, h2⟩ := h
  exact ⟨vs, h1, V.RL.keep hE hI hM cs _ h2⟩
 | _, _, hM, .box _ cs, _, h => by
  simp only [V.R] at h ⊢
  obtain ⟨vs, h1, h2⟩ := h
  exact ⟨vs, h1, V.RL.keep hE hI hM cs _ h2⟩
 | _, _, hM, .jX, _, h => by simpa [V.R] using h
 | _, _, hM, .lit _, _, h => by simpa [V.R] using h
 | _, _, hM, .b9, _, _ => by simp [V.R]
theorem V.RL.keep {X : Nat -> Prop} (hE : cy I w w' X) (hI : Sub I I') : ∀ {μ μ' : Mu} (_ : df μ μ') (cs : List V) (vs : List Value), V.RL P I μ w cs vs -> V.RL P I' μ' w' cs vs
 | _, _, hM, [], _, h => by simpa [V.RL] using h
 | _, _, hM, c :: cs, _, h => by
  simp only [V.RL] at h ⊢
  obtain ⟨u, us, h1, h2, h3⟩ := h
  exact ⟨u, us, h1, V.R.keep hE hI hM c u h2, V.RL.keep hE hI hM cs us h3⟩
end
theorem KD (μ : Mu) : df bY μ := fun _ _ h => (by cases h)
theorem sj {c : V} {v : Value} (h : V.R P I bY w c v) : V.R P I μ w c v := h.keep (.refl w (fun _ => False)) (.refl I) (KD μ)
theorem xR {cs : List V} {vs : List Value} (h : V.RL P I bY w cs vs) : V.RL P I μ w cs vs := h.keep (.refl w (fun _ => False)) (.refl I) (KD μ)
theorem V.RL.length : ∀ {cs : List V} {vs : List Value}, V.RL P I μ w cs vs -> vs.length = cs.length
 | [], _, h => by simp only [V.RL] at h; simp [h]
 | _ :: cs, _, h => by
  simp only [V.RL] at h
  obtain ⟨u, us, rfl, _, h⟩ := h
  simp [V.RL.length h]
theorem V.RL.get : ∀ {cs : List V} {vs : List Value}, V.RL P I μ w cs vs -> ∀ {j : Nat} {c : V}, cs[j]? = some c -> ∃ u, vs[j]? = some u /\ V.R P I μ w c u
 | [], _, _, _, _, hj => by simp at hj
 | _ :: cs, _, h, j, c, hj => by
  simp only [V.RL] at h
  obtain ⟨u, us, rfl, h1, h⟩ := h
  cases j with
  | zero => simp at hj; subst hj; exact ⟨u, by simp, h1⟩
  | succ j => simpa using V.RL.get h (j := j) (by simpa using hj)
theorem V.RL.of : ∀ {cs : List V} {vs : List Value}, vs.length = cs.length -> (∀ (j : Nat) (c : V) (u : Value), cs[j]? = some c -> vs[j]? = some u -> V.R P I μ w c u) -> V.RL P I μ w cs vs
 | [], vs, hl, _ => by simp only [V.RL]; exact List.eq_nil_of_length_eq_zero (by simpa using hl)
 | c :: cs, [], hl, _ => by simp at hl
 | c :: cs, v :: vs, hl, h => by
  simp only [V.RL]
  exact ⟨v, vs, rfl, h 0 c v (by simp) (by simp), V.RL.of (by simpa using hl) fun j c u hc hu => h (j + 1) c u (by simpa using hc) (by simpa using hu)⟩
theorem V.RL.append {a b : List V} {va vb : List Value} (h : V.RL P I μ w a va) (k : V.RL P I μ w b vb) : V.RL P I μ w (a ++ b) (va ++ vb) := by
 refine .of (by simp [h.length, k.length]) fun j c u hc hu => ?_
 have hl := h.length
 rw [List.getElem?_append] at hc hu
 by_cases hj : j < a.length
 ·rw [if_pos hj] at hc
  rw [if_pos af] at hu
  obtain ⟨u', hu', hr⟩ := h.get hc
  rw [hu] at hu'; cases hu'; exact hr
 ·rw [if_neg hj] at hc
  rw [if_neg af, hl] at hu
  obtain ⟨u', hu', hr⟩ := k.get hc
  rw [hu] at hu'; cases hu'; exact hr
theorem V.RL.drop {a : List V} {va : List Value} (h : V.RL P I μ w a va) (n : Nat) : V.RL P I μ w (a.drop n) (va.drop n) := by
 refine .of (by simp [h.length]) fun j c u hc hu => ?_
 rw [List.getElem?_drop] at hc hu
 obtain ⟨u', hu', hr⟩ := h.get hc
 rw [hu] at hu'; cases hu'; exact hr
theorem V.RL.take {a : List V} {va : List Value} (h : V.RL P I μ w a va) (n : Nat) : V.RL P I μ w (a.take n) (va.take n) := by
 refine .of (by simp [h.length]) fun j c u hc hu => ?_
 rw [List.getElem?_take] at hc hu
 split at hc
 ·rename_i hj
  rw [if_pos hj] at hu
  obtain ⟨u', hu', hr⟩ := h.get hc
  rw [hu] at hu'; cases hu'; exact hr
 ·cases hc
def V.seals : V -> Option (Bool × List V)
 | .aJ c => some (false, c)
 | .cu c => some (true, c)
 | _ => none
def mkS : Bool -> List V -> V
 | true, c => .cu c
 | false, c => .aJ c
def flat : List V -> List V
 | [] => []
 | x :: t => match x with
  | .aJ c => match t with
   | [] => c
   | _ :: _ => c ++ flat t
  | .cu c => match t with
   | [] => c
   | _ :: _ => c ++ flat t
  | x => x :: flat t
theorem gF {o : Bool} {c : List V} : ∀ {t : List V}, flat (mkS o c :: t) = c ++ flat t
 | [] => by cases o <;> simp [flat, mkS]
 | y :: u => by cases o <;> rfl
theorem Qy {c t : List V} : flat (.aJ c :: t) = c ++ flat t := gF (o := false)
def c7 : List V -> Bool
 | [] => false
 | x :: t => match x with
  | .aJ _ => true
  | .cu _ => true
  | _ => c7 t
theorem Mv (o : Bool) (c : List V) : (mkS o c).seals = some (o, c) := by cases o <;> rfl
theorem fu (x : V) : (∃ o c, x = mkS o c) \/ x.seals = none := by
 cases x <;> first | (exact .inr rfl) | (exact .inl ⟨false, _, rfl⟩) | (exact .inl ⟨true, _, rfl⟩)
theorem vj {o : Bool} {c t : List V} : c7 (mkS o c :: t) = true := by cases o <;> rfl
theorem nr {x : V} {t : List V} (hx : x.seals = none) : c7 (x :: t) = c7 t := by
 cases x <;> first | rfl | simp [V.seals] at hx
theorem eW {x : V} {t : List V} (hx : x.seals = none) : flat (x :: t) = x :: flat t := by
 cases x <;> first | rfl | simp [V.seals] at hx
theorem Bi {c : V} {v : Value} (h : V.R P I μ w c v) : c.seals = none := by
 cases c <;> first | rfl | simp [V.R] at h
theorem u4 : ∀ {l : List V} {vs : List Value}, V.RL P I μ w l vs -> flat l = l
 | [], _, _ => rfl
 | x :: t, _, h => by
  simp only [V.RL] at h
  obtain ⟨u, us, _, h1, h2⟩ := h
  rw [eW (Bi h1), u4 h2]
theorem D1 : ∀ {l : List V} {vs : List Value}, V.RL P I μ w l vs -> c7 l = false
 | [], _, _ => rfl
 | x :: t, _, h => by
  simp only [V.RL] at h
  obtain ⟨u, us, _, h1, h2⟩ := h
  rw [nr (Bi h1), D1 h2]
theorem iU : ∀ {l : List V}, c7 l = false -> flat l = l
 | [], _ => rfl
 | x :: t, h => by
  rcases fu x with ⟨o, c, rfl⟩ | hx
  ·rw [vj] at h; cases h
  ·rw [nr hx] at h
   rw [eW hx, iU h]
def V.isO : V -> Bool
 | .osl _ _ _ _ => true
 | _ => false
mutual
def V.O (P : Program) (I : Nat -> Prop) (w : World) (F : List Nat) (c : V) (v : Value) : Prop := match c with
 | .osl T n o cs => (n = 0 /\ F = [] /\ uG v) \/ ∃ g cap i cells fr F', v = .slice (some ⟨g, 0, none⟩) n cap /\ F = g :: F' /\ n <= cap /\ cap <= maxLen /\ P.info? T = some i /\ w.heap[g]? = some (.cells cells T fr) /\ (fr.2 <= fr.1 \/ cells.size <= fr.1) /\ cap * i.size <= cells.size /\ cs.length <= cells.size /\ (match o with
  | true => V.OL P I w F' cs (cells.toList.take cs.length)
  | false => F' = [] /\ V.RL P I bY w cs (cells.toList.take cs.length))
 | c => F = [] /\ V.R P I bY w c v
def V.OL (P : Program) (I : Nat -> Prop) (w : World) (F : List Nat) (l : List V) (vs : List Value) : Prop := match l with
 | [] => F = [] /\ vs = []
 | c :: cs => ∃ u us F1 F2, vs = u :: us /\ F = F1 ++ F2 /\ V.O P I w F1 c u /\ V.OL P I w F2 cs us
end
def OS (P : Program) (I : Nat -> Prop) (w : World) : Bool -> List Nat -> List V -> List Value -> Prop
 | true, F, c, us => V.OL P I w F c us
 | false, F, c, us => F = [] /\ V.RL P I bY w c us
theorem sg {F : List Nat} {T : TypeId} {n : Nat} {o : Bool} {cs : List V} {v : Value} : V.O P I w F (.osl T n o cs) v ↔ (n = 0 /\ F = [] /\ uG v) \/ ∃ g cap i cells fr F', v = .slice (some ⟨g, 0, none⟩) n cap /\ F = g :: F' /\ n <= cap /\ cap <= maxLen /\ P.info? T = some i /\ w.heap[g]? = some (.cells cells T fr) /\ (fr.2 <= fr.1 \/ cells.size <= fr.1) /\ cap * i.size <= cells.size /\ cs.length <= cells.size /\ OS P I w o F' cs (cells.toList.take cs.length) := by
 cases o <;> (rw [V.O]; rfl)
theorem si {F : List Nat} {c : V} {v : Value} (h : c.isO = false) : V.O P I w F c v ↔ F = [] /\ V.R P I bY w c v := by
 cases c
 case osl => simp [V.isO] at h
 all_goals
  rw [V.O]
  all_goals (intro T n o cs e; cases e)
theorem kG {F : List Nat} {vs : List Value} : V.OL P I w F [] vs ↔ F = [] /\ vs = [] := by rw [V.OL]
theorem ll {F : List Nat} {c : V} {cs : List V} {vs : List Value} : V.OL P I w F (c :: cs) vs ↔ ∃ u us F1 F2, vs = u :: us /\ F = F1 ++ F2 /\ V.O P I w F1 c u /\ V.OL P I w F2 cs us := by rw [V.OL]
theorem V.OL.length : ∀ {cs : List V} {F : List Nat} {vs : List Value}, V.OL P I w F cs vs -> vs.length = cs.length
 | [], F, vs, h => by obtain ⟨_, rfl⟩ := kG.1 h; rfl
 | c :: cs, F, vs, h => by
  obtain ⟨u, us, F1, F2, rfl, _, _, h⟩ := ll.1 h
  simp [V.OL.length h]
theorem xN : ∀ {a b : List V} {F : List Nat} {vs : List Value}, V.OL P I w F (a ++ b) vs ↔ ∃ F1 F2 us us', vs = us ++ us' /\ F = F1 ++ F2 /\ V.OL P I w F1 a us /\ V.OL P I w F2 b us'
 | [], b, F, vs => by
  simp only [List.nil_append]
  constructor
  ·exact fun h => ⟨[], F, [], vs, rfl, rfl, kG.2 ⟨rfl, rfl⟩, h⟩
  ·rintro ⟨F1, F2, us, us', rfl, rfl, h1, h2⟩
   obtain ⟨rfl, rfl⟩ := kG.1 h1
   exact h2
 | c :: a, b, F, vs => by
  rw [List.cons_append, ll]
  constructor
  ·rintro ⟨u, us, F1, F2, rfl, rfl, h1, h2⟩
   obtain ⟨F3, F4, jd, im, rfl, rfl, h3, h4⟩ := xN.1 h2
   exact ⟨F1 ++ F3, F4, u :: jd, im, rfl, by simp, ll.2 ⟨u, jd, F1, F3, rfl, rfl, h1, h3⟩, h4⟩
  ·rintro ⟨F1, F2, us, us', rfl, rfl, h1, h2⟩
   obtain ⟨u, jd, F3, F4, rfl, rfl, h3, h4⟩ := ll.1 h1
   exact ⟨u, jd ++ us', F3, F4 ++ F2, rfl, by simp, h3, xN.2 ⟨F4, F2, jd, us', rfl, rfl, h4, h2⟩⟩
theorem V.OL.append {a b : List V} {F G : List Nat} {va vb : List Value} (h : V.OL P I w F a va) (k : V.OL P I w G b vb) : V.OL P I w (F ++ G) (a ++ b) (va ++ vb) := xN.2 ⟨F, G, va, vb, rfl, rfl, h, k⟩
theorem V.OL.split {l : List V} {F : List Nat} {vs : List Value} (h : V.OL P I w F l vs) (n : Nat) : ∃ F1 F2, F = F1 ++ F2 /\ V.OL P I w F1 (l.take n) (vs.take n) /\ V.OL P I w F2 (l.drop n) (vs.drop n) := by
 rw [<- List.take_append_drop n l] at h
 obtain ⟨F1, F2, us, us', rfl, rfl, h1, h2⟩ := xN.1 h
 have hl := h1.length
 refine ⟨F1, F2, rfl, ?_, ?_⟩
 ·by_cases hn : n <= l.length
  ·rw [List.take_left' (by rw [hl, List.length_take]; omega)]; exact h1
  ·have h0 : l.drop n = [] := List.drop_of_length_le af
   rw [h0] at h2
   obtain ⟨rfl, rfl⟩ := kG.1 h2
   have e : us.take n = us := List.take_of_length_le (by rw [hl, List.length_take]; omega)
   rw [List.append_nil, e]; exact h1
 ·by_cases hn : n <= l.length
  ·rw [List.drop_left' (by rw [hl, List.length_take]; omega)]; exact h2
  ·have h0 : l.drop n = [] := List.drop_of_length_le af
   rw [h0] at h2 ⊢
   obtain ⟨rfl, rfl⟩ := kG.1 h2
   rw [List.append_nil, List.drop_of_length_le (by rw [hl, List.length_take]; omega)]; exact kG.2 ⟨rfl, rfl⟩
theorem Gh {c : V} {v : Value} (h : V.R P I μ w c v) : c.isO = false := by cases c <;> first | rfl | simp [V.R] at h
theorem Ba : ∀ {cs : List V} {vs : List Value}, V.RL P I bY w cs vs -> V.OL P I w [] cs vs
 | [], vs, h => by simp only [V.RL] at h; exact kG.2 ⟨rfl, h⟩
 | c :: cs, vs, h => by
  simp only [V.RL] at h
  obtain ⟨u, us, rfl, h1, h2⟩ := h
  exact ll.2 ⟨u, us, [], [], rfl, rfl, (si (Gh h1)).2 ⟨rfl, h1⟩, Ba h2⟩
mutual
theorem V.O.keep {X : Nat -> Prop} (hE : cy I w w' X) (hI : Sub I I') : ∀ (c : V) (F : List Nat) (v : Value), (∀ k ∈ F, ¬ X k) -> V.O P I w F c v -> V.O P I' w' F c v
 | c, F, v, hX, h => by
  cases hc : c.isO with
  | false =>
   rw [si hc] at h ⊢
   exact ⟨h.1, h.2.keep hE hI (.refl _)⟩
  | true => match c, hc with
   | .osl T n o cs, _ =>
    rw [sg] at h ⊢
    rcases h with h | ⟨g, cap, i, cells, fr, F', h1, rfl, h3, h4, h5, h6, h7, h8, h9, iz⟩
    ·exact .inl h
    ·refine .inr ⟨g, cap, i, cells, fr, F', h1, rfl, h3, h4, h5, (hE.block g (Array.getElem?_eq_some_iff.1 h6).1 (hX g (by simp))).trans h6, h7, h8, h9, ?_⟩
     cases o with
     | true => exact V.OL.keep hE hI cs F' _ (fun k hk => hX k (by simp [hk])) iz
     | false => exact ⟨iz.1, iz.2.keep hE hI (.refl _)⟩
theorem V.OL.keep {X : Nat -> Prop} (hE : cy I w w' X) (hI : Sub I I') : ∀ (cs : List V) (F : List Nat) (vs : List Value), (∀ k ∈ F, ¬ X k) -> V.OL P I w F cs vs -> V.OL P I' w' F cs vs
 | [], F, vs, _, h => by rw [kG] at h ⊢; exact h
 | c :: cs, F, vs, hX, h => by
  rw [ll] at h ⊢
  obtain ⟨u, us, F1, F2, rfl, rfl, h1, h2⟩ := h
  exact ⟨u, us, F1, F2, rfl, rfl, V.O.keep hE hI c F1 u (fun k hk => hX k (by simp [hk])) h1, V.OL.keep hE hI cs F2 us (fun k hk => hX k (by simp [hk])) h2⟩
end
def OX (P : Program) (I : Nat -> Prop) (μ : Mu) (w : World) (F : List Nat) (c : V) (u : Value) : Prop := match c.isO with
 | true => V.O P I w F c u
 | false => F = [] /\ V.R P I μ w c u
def OXL (P : Program) (I : Nat -> Prop) (μ : Mu) (w : World) : List Nat -> List V -> List Value -> Prop
 | F, [], vs => F = [] /\ vs = []
 | F, c :: cs, vs => ∃ u us F1 F2, vs = u :: us /\ F = F1 ++ F2 /\ OX P I μ w F1 c u /\ OXL P I μ w F2 cs us
def CR (P : Program) (I : Nat -> Prop) (μ : Mu) (w : World) : List Nat -> List V -> List Value -> Prop
 | F, [], vs => F = [] /\ vs = []
 | F, x :: t, vs => match x.seals with
  | some (o, c) => ∃ us cD F1 F2, vs = us ++ cD /\ F = F1 ++ F2 /\ OS P I w o F1 c us /\ CR P I μ w F2 t cD
  | none => ∃ u us F1 F2, vs = u :: us /\ F = F1 ++ F2 /\ OX P I μ w F1 x u /\ CR P I μ w F2 t us
theorem CR.fM {o : Bool} {F : List Nat} {c t : List V} {vs : List Value} : CR P I μ w F (mkS o c :: t) vs ↔ ∃ us cD F1 F2, vs = us ++ cD /\ F = F1 ++ F2 /\ OS P I w o F1 c us /\ CR P I μ w F2 t cD := by
 rw [CR, Mv]
theorem CR.EI {F : List Nat} {c t : List V} {vs : List Value} : CR P I μ w F (.aJ c :: t) vs ↔ ∃ us cD, vs = us ++ cD /\ V.RL P I bY w c us /\ CR P I μ w F t cD := by
 refine (CR.fM (o := false)).trans ⟨?_, ?_⟩
 ·rintro ⟨us, cD, F1, F2, rfl, rfl, ⟨rfl, h1⟩, h2⟩
  exact ⟨us, cD, rfl, h1, h2⟩
 ·rintro ⟨us, cD, rfl, h1, h2⟩
  exact ⟨us, cD, [], F, rfl, rfl, ⟨rfl, h1⟩, h2⟩
theorem CR.eF {F : List Nat} {x : V} {t : List V} {vs : List Value} (hx : x.seals = none) : CR P I μ w F (x :: t) vs ↔ ∃ u us F1 F2, vs = u :: us /\ F = F1 ++ F2 /\ OX P I μ w F1 x u /\ CR P I μ w F2 t us := by
 rw [CR, hx]
theorem CR.fp {F : List Nat} {vs : List Value} : CR P I μ w F [] vs ↔ F = [] /\ vs = [] := by simp only [CR]
theorem OS.nU {o : Bool} {F : List Nat} {c : List V} {us : List Value} (h : OS P I w o F c us) : V.OL P I w F c us := by
 cases o
 ·obtain ⟨rfl, h⟩ := h; exact Ba h
 ·exact h
theorem OS.keep {X : Nat -> Prop} (hE : cy I w w' X) (hI : Sub I I') {o : Bool} {F : List Nat} {c : List V} {us : List Value} (hX : ∀ k ∈ F, ¬ X k) (h : OS P I w o F c us) : OS P I' w' o F c us := by
 cases o
 ·exact ⟨h.1, h.2.keep hE hI (.refl _)⟩
 ·exact V.OL.keep hE hI c F us hX h
theorem sf {c : V} {u : Value} (h : V.R P I μ w c u) : OX P I μ w [] c u := by
 unfold OX; rw [Gh h]; exact ⟨rfl, h⟩
theorem xO {F : List Nat} {c : V} {u : Value} (h : V.O P I w F c u) : OX P I μ w F c u := by
 unfold OX
 cases hc : c.isO with
 | true => exact h
 | false =>
  obtain ⟨e, h3⟩ := (si hc).1 h
  exact ⟨e, sj h3⟩
theorem OX.plain {F : List Nat} {c : V} {u : Value} (h : OX P I μ w F c u) (hc : c.isO = false) : F = [] /\ V.R P I μ w c u := by
 unfold OX at h; rwa [hc] at h
theorem Bd : ∀ {cs : List V} {vs : List Value}, V.RL P I μ w cs vs -> OXL P I μ w [] cs vs
 | [], vs, h => by simp only [V.RL] at h; exact ⟨rfl, h⟩
 | c :: cs, vs, h => by
  simp only [V.RL] at h
  obtain ⟨u, us, rfl, h1, h2⟩ := h
  exact ⟨u, us, [], [], rfl, rfl, sf h1, Bd h2⟩
theorem Bc : ∀ {cs : List V} {F : List Nat} {vs : List Value}, V.OL P I w F cs vs -> OXL P I μ w F cs vs
 | [], F, vs, h => kG.1 h
 | c :: cs, F, vs, h => by
  obtain ⟨u, us, F1, F2, h1, h2, h3, h4⟩ := ll.1 h
  exact ⟨u, us, F1, F2, h1, h2, xO h3, Bc h4⟩
theorem OXL.length : ∀ {cs : List V} {F : List Nat} {vs : List Value}, OXL P I μ w F cs vs -> vs.length = cs.length
 | [], F, vs, h => by obtain ⟨_, rfl⟩ := h; rfl
 | c :: cs, F, vs, h => by
  obtain ⟨u, us, F1, F2, rfl, _, _, h⟩ := h
  simp [OXL.length h]
theorem OXL.append : ∀ {a b : List V} {F G : List Nat} {va vb : List Value}, OXL P I μ w F a va -> OXL P I μ w G b vb -> OXL P I μ w (F ++ G) (a ++ b) (va ++ vb)
 | [], b, F, G, va, vb, h, k => by obtain ⟨rfl, rfl⟩ := h; exact k
 | c :: a, b, F, G, va, vb, h, k => by
  obtain ⟨u, us, F1, F2, rfl, rfl, h1, h2⟩ := h
  exact ⟨u, us ++ vb, F1, F2 ++ G, rfl, by simp, h1, h2.append k⟩
theorem OXL.split : ∀ {l : List V} {F : List Nat} {vs : List Value}, OXL P I μ w F l vs -> ∀ n : Nat, ∃ F1 F2, F = F1 ++ F2 /\ OXL P I μ w F1 (l.take n) (vs.take n) /\ OXL P I μ w F2 (l.drop n) (vs.drop n)
 | [], F, vs, h, n => by
  obtain ⟨rfl, rfl⟩ := h
  exact ⟨[], [], rfl, by simpa using ⟨rfl, rfl⟩, by simpa using ⟨rfl, rfl⟩⟩
 | c :: l, F, vs, h, 0 => ⟨[], F, rfl, ⟨rfl, rfl⟩, h⟩
 | c :: l, F, vs, h, n + 1 => by
  obtain ⟨u, us, F1, F2, rfl, rfl, h1, h2⟩ := h
  obtain ⟨G1, G2, rfl, h3, h4⟩ := h2.split n
  exact ⟨F1 ++ G1, G2, by simp, ⟨u, us.take n, F1, G1, rfl, rfl, h1, h3⟩, h4⟩
theorem OXL.xe : ∀ {cs : List V} {F : List Nat} {vs : List Value}, OXL P I μ w F cs vs -> (cs.all fun c => !c.isO) = true -> F = [] /\ V.RL P I μ w cs vs
 | [], F, vs, h, _ => by obtain ⟨rfl, rfl⟩ := h; simp [V.RL]
 | c :: cs, F, vs, h, ha => by
  obtain ⟨u, us, F1, F2, rfl, rfl, h1, h2⟩ := h
  rw [List.all_cons, Bool.and_eq_true] at ha
  obtain ⟨rfl, h3⟩ := h1.plain (by simpa using ha.1)
  obtain ⟨rfl, h4⟩ := h2.xe ha.2
  refine ⟨rfl, ?_⟩
  simp only [V.RL]
  exact ⟨u, us, rfl, h3, h4⟩
theorem OXL.get : ∀ {cs : List V} {F : List Nat} {vs : List Value}, OXL P I μ w F cs vs -> ∀ {j : Nat} {c : V}, cs[j]? = some c -> c.isO = false -> ∃ u, vs[j]? = some u /\ V.R P I μ w c u
 | [], _, _, _, _, _, hj, _ => by simp at hj
 | _ :: cs, _, _, h, j, c, hj, hc => by
  obtain ⟨u, us, F1, F2, rfl, rfl, h1, h2⟩ := h
  cases j with
  | zero => simp at hj; subst hj; exact ⟨u, by simp, (h1.plain hc).2⟩
  | succ j => simpa using h2.get (j := j) (by simpa using hj) hc
theorem CR.la : ∀ {l : List V} {F : List Nat} {vs : List Value}, CR P I μ w F l vs -> OXL P I μ w F (flat l) vs
 | [], F, _, h => CR.fp.1 h
 | x :: t, F, vs, h => by
  rcases fu x with ⟨o, c, rfl⟩ | hx
  ·obtain ⟨us, cD, F1, F2, rfl, rfl, h1, h2⟩ := CR.fM.1 h
   rw [gF]; exact (Bc h1.nU).append (CR.la h2)
  ·obtain ⟨u, us, F1, F2, rfl, rfl, h1, h2⟩ := (CR.eF hx).1 h
   rw [eW hx]
   exact ⟨u, us, F1, F2, rfl, rfl, h1, CR.la h2⟩
theorem CR.length {l : List V} {F : List Nat} {vs : List Value} (h : CR P I μ w F l vs) : vs.length = (flat l).length := h.la.length
theorem CR.vX : ∀ {l : List V} {F : List Nat} {vs : List Value}, c7 l = false -> OXL P I μ w F l vs -> CR P I μ w F l vs
 | [], F, _, _, h => CR.fp.2 h
 | x :: t, F, vs, hs, h => by
  obtain ⟨u, us, F1, F2, rfl, rfl, h1, h2⟩ := h
  have hx : x.seals = none := by
   rcases fu x with ⟨o, c, rfl⟩ | hx
   ·rw [vj] at hs; cases hs
   ·exact hx
  have ht : c7 t = false := by rw [<- hs, nr hx]
  exact (CR.eF hx).2 ⟨u, us, F1, F2, rfl, rfl, h1, CR.vX ht h2⟩
theorem CR.of {l : List V} {vs : List Value} (h : V.RL P I μ w l vs) : CR P I μ w [] l vs := CR.vX (D1 h) (Bd h)
theorem OX.keep {X : Nat -> Prop} (hE : cy I w w' X) (hI : Sub I I') (hM : df μ μ') {F : List Nat} {c : V} {u : Value} (hX : ∀ k ∈ F, ¬ X k) (h : OX P I μ w F c u) : OX P I' μ' w' F c u := by
 unfold OX at h ⊢
 cases hc : c.isO with
 | true => rw [hc] at h; exact V.O.keep hE hI c F u hX h
 | false => rw [hc] at h; exact ⟨h.1, h.2.keep hE hI hM⟩
theorem CR.keep {X : Nat -> Prop} (hE : cy I w w' X) (hI : Sub I I') (hM : df μ μ') : ∀ {l : List V} {F : List Nat} {vs : List Value}, (∀ k ∈ F, ¬ X k) -> CR P I μ w F l vs -> CR P I' μ' w' F l vs
 | [], F, _, _, h => by rw [CR.fp] at h ⊢; exact h
 | x :: t, F, vs, hX, h => by
  rcases fu x with ⟨o, c, rfl⟩ | hx
  ·obtain ⟨us, cD, F1, F2, rfl, rfl, h1, h2⟩ := CR.fM.1 h
   exact CR.fM.2 ⟨us, cD, F1, F2, rfl, rfl, h1.keep hE hI (fun k hk => hX k (by simp [hk])), CR.keep hE hI hM (fun k hk => hX k (by simp [hk])) h2⟩
  ·obtain ⟨u, us, F1, F2, rfl, rfl, h1, h2⟩ := (CR.eF hx).1 h
   exact (CR.eF hx).2 ⟨u, us, F1, F2, rfl, rfl, h1.keep hE hI hM (fun k hk => hX k (by simp [hk])), CR.keep hE hI hM (fun k hk => hX k (by simp [hk])) h2⟩
theorem CR.append_iff : ∀ {a b : List V} {F : List Nat} {vs : List Value}, CR P I μ w F (a ++ b) vs ↔ ∃ F1 F2 us us', vs = us ++ us' /\ F = F1 ++ F2 /\ CR P I μ w F1 a us /\ CR P I μ w F2 b us'
 | [], b, F, vs => by
  simp only [List.nil_append]
  constructor
  ·exact fun h => ⟨[], F, [], vs, rfl, rfl, CR.fp.2 ⟨rfl, rfl⟩, h⟩
  ·rintro ⟨F1, F2, us, us', rfl, rfl, h1, h2⟩
   obtain ⟨rfl, rfl⟩ := CR.fp.1 h1
   exact h2
 | x :: t, b, F, vs => by
  rw [List.cons_append]
  rcases fu x with ⟨o, c, rfl⟩ | hx
  ·rw [CR.fM]
   constructor
   ·rintro ⟨us, cD, F1, F2, rfl, rfl, h1, h2⟩
    obtain ⟨F3, F4, jd, im, rfl, rfl, h3, h4⟩ := CR.append_iff.1 h2
    exact ⟨F1 ++ F3, F4, us ++ jd, im, by simp, by simp, CR.fM.2 ⟨us, jd, F1, F3, rfl, rfl, h1, h3⟩, h4⟩
   ·rintro ⟨F1, F2, us, us', rfl, rfl, h1, h2⟩
    obtain ⟨jd, im, F3, F4, rfl, rfl, h3, h4⟩ := CR.fM.1 h1
    exact ⟨jd, im ++ us', F3, F4 ++ F2, by simp, by simp, h3, CR.append_iff.2 ⟨F4, F2, im, us', rfl, rfl, h4, h2⟩⟩
  ·rw [CR.eF hx]
   constructor
   ·rintro ⟨u, us, F1, F2, rfl, rfl, h1, h2⟩
    obtain ⟨F3, F4, jd, im, rfl, rfl, h3, h4⟩ := CR.append_iff.1 h2
    exact ⟨F1 ++ F3, F4, u :: jd, im, rfl, by simp, (CR.eF hx).2 ⟨u, jd, F1, F3, rfl, rfl, h1, h3⟩, h4⟩
   ·rintro ⟨F1, F2, us, us', rfl, rfl, h1, h2⟩
    obtain ⟨u, jd, F3, F4, rfl, rfl, h3, h4⟩ := (CR.eF hx).1 h1
    exact ⟨u, jd ++ us', F3, F4 ++ F2, rfl, by simp, h3, CR.append_iff.2 ⟨F4, F2, jd, us', rfl, rfl, h4, h2⟩⟩
theorem CR.append {a b : List V} {F G : List Nat} {va vb : List Value} (h : CR P I μ w F a va) (k : CR P I μ w G b vb) : CR P I μ w (F ++ G) (a ++ b) (va ++ vb) := CR.append_iff.2 ⟨F, G, va, vb, rfl, rfl, h, k⟩
theorem fK : ∀ (a b : List V), flat (a ++ b) = flat a ++ flat b
 | [], b => rfl
 | x :: t, b => by
  rcases fu x with ⟨o, c, rfl⟩ | hx
  ·rw [List.cons_append, gF, gF, fK t b, List.append_assoc]
  ·rw [List.cons_append, eW hx, eW hx, fK t b, List.cons_append]
theorem CR.rr {o : Bool} {c : List V} {F : List Nat} {vs : List Value} (h : OS P I w o F c vs) : CR P I μ w F [mkS o c] vs := CR.fM.2 ⟨vs, [], F, [], by simp, by simp, h, CR.fp.2 ⟨rfl, rfl⟩⟩
theorem CR.zU {c : List V} {vs : List Value} (h : V.RL P I bY w c vs) : CR P I μ w [] [.aJ c] vs := CR.rr (o := false) ⟨rfl, h⟩
def hasO (l : List V) : Bool := l.any fun x => match x with
 | .cu _ => true
 | .osl _ _ _ _ => true
 | _ => false
theorem CR.Ep : ∀ {l : List V} {F : List Nat} {vs : List Value}, hasO l = false -> CR P I μ w F l vs -> F = [] /\ V.RL P I μ w (flat l) vs
 | [], F, vs, _, h => by obtain ⟨rfl, rfl⟩ := CR.fp.1 h; simp [flat, V.RL]
 | x :: t, F, vs, ho, h => by
  unfold hasO at ho
  rw [List.any_cons, Bool.or_eq_false_iff] at ho
  rcases fu x with ⟨o, c, rfl⟩ | hx
  ·obtain ⟨us, cD, F1, F2, rfl, rfl, h1, h2⟩ := CR.fM.1 h
   obtain ⟨rfl, h3⟩ := CR.Ep ho.2 h2
   cases o
   ·obtain ⟨rfl, h1⟩ := h1
    rw [gF]
    exact ⟨rfl, (xR h1).append h3⟩
   ·simp [mkS] at ho
  ·obtain ⟨u, us, F1, F2, rfl, rfl, h1, h2⟩ := (CR.eF hx).1 h
   obtain ⟨rfl, h3⟩ := CR.Ep ho.2 h2
   rw [eW hx]
   have hn : x.isO = false := by cases x <;> first | rfl | simp at ho
   obtain ⟨rfl, h4⟩ := h1.plain hn
   refine ⟨rfl, ?_⟩
   simp only [V.RL]
   exact ⟨u, us, rfl, h4, h3⟩
def gC (P : Program) (I : Nat -> Prop) (μ : Mu) (w : World) (F : List Nat) (l : List V) (cs : Array Value) : Prop :=
 (flat l).length <= cs.size /\ CR P I μ w F l (cs.toList.take (flat l).length)
def kV : TypeId := 4294967291
def MapR (P : Program) (I : Nat -> Prop) (w : World) : List V -> List MapEntry -> Prop
 | [], es => es = []
 | [_], _ => False
 | k :: v :: l, es => ∃ e es', es = e :: es' /\ V.R P I bY w k e.key /\ V.R P I bY w v e.val /\ MapR P I w l es'
theorem MapR.keep {X : Nat -> Prop} (hE : cy I w w' X) (hI : Sub I I') : ∀ {l : List V} {es : List MapEntry}, MapR P I w l es -> MapR P I' w' l es
 | [], _, h => h
 | [_], _, h => h
 | _ :: _ :: l, _, h => by
  obtain ⟨e, es', h1, h2, h3, h4⟩ := h
  exact ⟨e, es', h1, h2.keep hE hI (.refl _), h3.keep hE hI (.refl _), MapR.keep hE hI h4⟩
def Holds (P : Program) (I : Nat -> Prop) (μ : Mu) (w : World) (b : Nat) (blk : bM) : Prop :=
 (∃ g cs fr, μ b = some g /\ ¬ I g /\ w.heap[g]? = some (.cells cs blk.2 fr) /\ (fr.2 <= fr.1 \/ cs.size <= fr.1) /\ gC P I μ w (μ.ft b) blk.1 cs /\ (g :: μ.ft b).Nodup /\ ∀ k ∈ μ.ft b, ¬ I k /\ k < w.heap.size) \/
 (μ b = none /\ μ.ft b = []) \/
 (∃ g es ck c, μ b = some g /\ ¬ I g /\ w.heap[g]? = some (.map es ck) /\ blk = ([.aJ (.cu [] :: c)], kV) /\ MapR P I w c es.toList /\ μ.ft b = [])
theorem gC.of {l : List V} {cs : Array Value} (h4 : l.length <= cs.size) (h5 : V.RL P I μ w l (cs.toList.take l.length)) : gC P I μ w [] l cs := by
 have e := u4 h5
 exact ⟨by rw [e]; exact h4, by rw [e]; exact .of h5⟩
theorem gC.aJ {c : List V} {cs : Array Value} (h4 : c.length <= cs.size) (h5 : V.RL P I bY w c (cs.toList.take c.length)) : gC P I μ w [] [.aJ c] cs := by
 have e : flat [.aJ c] = c := by simp [flat]
 exact ⟨by rw [e]; exact h4, by rw [e]; exact .zU h5⟩
theorem gC.keep {X : Nat -> Prop} {F : List Nat} {l : List V} {cs : Array Value} (h : gC P I μ w F l cs) (hX : ∀ k ∈ F, ¬ X k) (hE : cy I w w' X) (hI : Sub I I') (hM : df μ μ') : gC P I' μ' w' F l cs := ⟨h.1, h.2.keep hE hI hM hX⟩
def dQ (T : TypeId) : Bool := !(Nat.beq T kV)
theorem Holds.LO {b g : Nat} {blk : bM} {cs : Array Value} {T : TypeId} {fr : Nat × Nat} (h : Holds P I μ w b blk) (hg : μ b = some g) (hw : w.heap[g]? = some (.cells cs T fr)) : ∃ cs fr, ¬ I g /\ w.heap[g]? = some (.cells cs blk.2 fr) /\ (fr.2 <= fr.1 \/ cs.size <= fr.1) /\ gC P I μ w (μ.ft b) blk.1 cs /\ (g :: μ.ft b).Nodup /\ ∀ k ∈ μ.ft b, ¬ I k /\ k < w.heap.size := by
 rcases h with ⟨g', cs, fr, h1, h⟩ | ⟨h1, _⟩ | ⟨g', es, ck, c, h1, _, h2, _⟩
 ·rw [hg] at h1; cases h1
  exact ⟨cs, fr, h⟩
 ·rw [hg] at h1; cases h1
 ·rw [hg] at h1; cases h1
  rw [hw] at h2; cases h2
theorem Holds.kZ {b g : Nat} {blk : bM} {s : TypeId × Nat} (h : Holds P I μ w b blk) (hg : μ b = some g) (hw : w.shape? g = some s) : ∃ cs fr, ¬ I g /\ w.heap[g]? = some (.cells cs blk.2 fr) /\ (fr.2 <= fr.1 \/ cs.size <= fr.1) /\ gC P I μ w (μ.ft b) blk.1 cs /\ (g :: μ.ft b).Nodup /\ ∀ k ∈ μ.ft b, ¬ I k /\ k < w.heap.size := by
 unfold World.shape? at hw
 split at hw
 ·rename_i hh; exact h.LO hg hh
 ·cases hw
theorem Holds.real {b g : Nat} {blk : bM} (h : Holds P I μ w b blk) (hT : dQ blk.2 = true) (hg : μ b = some g) : ∃ cs fr, ¬ I g /\ w.heap[g]? = some (.cells cs blk.2 fr) /\ (fr.2 <= fr.1 \/ cs.size <= fr.1) /\ gC P I μ w (μ.ft b) blk.1 cs /\ (g :: μ.ft b).Nodup /\ ∀ k ∈ μ.ft b, ¬ I k /\ k < w.heap.size := by
 rcases h with ⟨g', cs, fr, h1, h⟩ | ⟨h1, _⟩ | ⟨g', es, ck, c, h1, _, _, rfl, _⟩
 ·rw [hg] at h1; cases h1
  exact ⟨cs, fr, h⟩
 ·rw [hg] at h1; cases h1
 ·simp [dQ, kV] at hT
theorem Holds.YW {b g : Nat} {blk : bM} (h : Holds P I μ w b blk) (hs : ¬ c7 blk.1 = true) (hg : μ b = some g) : ∃ cs fr, ¬ I g /\ w.heap[g]? = some (.cells cs blk.2 fr) /\ (fr.2 <= fr.1 \/ cs.size <= fr.1) /\ gC P I μ w (μ.ft b) blk.1 cs /\ (g :: μ.ft b).Nodup /\ ∀ k ∈ μ.ft b, ¬ I k /\ k < w.heap.size := by
 rcases h with ⟨g', cs, fr, h1, h⟩ | ⟨h1, _⟩ | ⟨g', es, ck, c, h1, _, _, rfl, _⟩
 ·rw [hg] at h1; cases h1
  exact ⟨cs, fr, h⟩
 ·rw [hg] at h1; cases h1
 ·exact absurd (by rfl) hs
theorem Holds.keep {X : Nat -> Prop} {b : Nat} {blk : bM} (h : Holds P I μ w b blk) (hE : cy I w w' X) (hI : Sub I I') (hM : df μ μ') (h0 : μ b = none -> μ' b = none) (hf : μ'.ft b = μ.ft b) (hX : ∀ g, μ.own b g -> ¬ X g) (hn : ∀ g, μ.own b g -> ¬ I' g) : Holds P I' μ' w' b blk := by
 rcases h with ⟨g, cs, fr, h1, _, h2, h3, h4, h5, h6⟩ | ⟨h1, h3⟩ | ⟨g, es, ck, c, h1, _, h2, h3, h4, h5⟩
 ·refine .inl ⟨g, cs, fr, hM _ _ h1, hn g (.inl h1), (hE.block g (Array.getElem?_eq_some_iff.1 h2).1 (hX g (.inl h1))).trans h2, h3, ?_, by rw [hf]; exact h5, fun k hk => ?_⟩
  ·rw [hf]; exact h4.keep (fun k hk => hX k (.inr hk)) hE hI hM
  ·rw [hf] at hk
   exact ⟨hn k (.inr hk), Nat.lt_of_lt_of_le (h6 k hk).2 hE.size⟩
 ·exact .inr (.inl ⟨h0 h1, by rw [hf]; exact h3⟩)
 ·exact .inr (.inr ⟨g, es, ck, c, hM _ _ h1, hn g (.inl h1), (hE.block g (Array.getElem?_eq_some_iff.1 h2).1 (hX g (.inl h1))).trans h2, h3, h4.keep hE hI, by rw [hf]; exact h5⟩)
theorem Holds.lt {b g : Nat} {blk : bM} (h : Holds P I μ w b blk) (hg : μ.own b g) : g < w.heap.size := by
 rcases h with ⟨g', cs, fr, h1, _, h2, _, _, _, h6⟩ | ⟨h1, h3⟩ | ⟨g', es, ck, c, h1, _, h2, _, _, h3⟩
 ·rcases hg with hg | hg
  ·rw [hg] at h1; cases h1
   exact (Array.getElem?_eq_some_iff.1 h2).1
  ·exact (h6 g hg).2
 ·rcases hg with hg | hg
  ·rw [hg] at h1; cases h1
  ·rw [h3] at hg; cases hg
 ·rcases hg with hg | hg
  ·rw [hg] at h1; cases h1
   exact (Array.getElem?_eq_some_iff.1 h2).1
  ·rw [h3] at hg; cases hg
theorem Holds.ku {b g : Nat} {blk : bM} (h : Holds P I μ w b blk) (hg : μ.own b g) : ¬ I g := by
 rcases h with ⟨g', cs, fr, h1, h0, h2, _, _, _, h6⟩ | ⟨h1, h3⟩ | ⟨g', es, ck, c, h1, h0, h2, _, _, h3⟩
 ·rcases hg with hg | hg
  ·rw [hg] at h1; cases h1
   exact h0
  ·exact (h6 g hg).1
 ·rcases hg with hg | hg
  ·rw [hg] at h1; cases h1
  ·rw [h3] at hg; cases hg
 ·rcases hg with hg | hg
  ·rw [hg] at h1; cases h1
   exact h0
  ·rw [h3] at hg; cases hg
theorem Holds.cell {b : Nat} {blk : bM} (h : Holds P I μ w b blk) (hT : dQ blk.2 = true) {g : Nat} (hg : μ b = some g) {j : Nat} {c : V} (hj : (flat blk.1)[j]? = some c) (hc : c.isO = false) : ∃ u, w.cell? ⟨g, j, none⟩ = some u /\ V.R P I μ w c u := by
 obtain ⟨cs, fr, _, h2, _, ⟨h4, h5⟩, _⟩ := h.real hT hg
 obtain ⟨u, hu, hr⟩ := h5.la.get hj hc
 rw [List.getElem?_take] at hu
 split at hu
 ·exact ⟨u, by simpa [World.cell?, h2] using hu, hr⟩
 ·cases hu
def V.one : V -> Bool
 | .agg _ | .tup _ | .b9 | .aJ _ | .cu _ | .osl _ _ _ _ => false
 | .lit v => v.oneCell'
 | _ => true
theorem V.KV {c : V} {v : Value} (h : V.R P I μ w c v) (h1 : c.one = true) : v.oneCell' = true /\ v.cells = #[v] := by
 cases c <;> simp only [V.one, Bool.false_eq_true] at h1 <;> simp only [V.R] at h
 all_goals (first
  | (subst h; exact ⟨rfl, rfl⟩)
  | (obtain ⟨g, _, rfl⟩ := h; exact ⟨rfl, rfl⟩)
  | (rcases h with ⟨g, cap, e, N, i, _, rfl, _⟩ | ⟨_, _, a, rfl, _⟩ <;> exact ⟨rfl, rfl⟩)
  | (obtain ⟨a, cap, rfl, _⟩ := h; exact ⟨rfl, rfl⟩)
  | (obtain ⟨g, off, rfl, _⟩ := h; exact ⟨rfl, rfl⟩)
  | (obtain ⟨vs, rfl, _⟩ := h; exact ⟨rfl, rfl⟩)
  | (rename_i k _; obtain ⟨vs, rfl, _⟩ := h; cases k <;> first | exact ⟨rfl, rfl⟩ | (simp only [BK.mk]; split <;> exact ⟨rfl, rfl⟩))
  | (subst h; refine ⟨h1, ?_⟩; cases v <;> simp_all [Value.oneCell', Value.cells]))
mutual
theorem xT : ∀ (v : V) (u : Value), v.refs = [] -> V.R P I μ w v u -> V.R P I bY w v u
 | .int _ _, _, _, h => by simpa only [V.R] using h
 | .bool _, _, _, h => by simpa only [V.R] using h
 | .str _, _, _, h => by simpa only [V.R] using h
 | .iI, _, _, h => by simpa only [V.R] using h
 | .ptr _ _, _, hr, _ => by simp [V.refs] at hr
 | .sl _ _ _ _, _, hr, _ => by simp [V.refs] at hr
 | .dsl _ _ _, _, _, h => by simpa only [V.R] using h
 | .dptr _, _, _, h => by simpa only [V.R] using h
 | .eptr _ _ _, _, hr, _ => by simp [V.refs] at hr
 | .osl _ _ _ _, _, _, h => by simp [V.R] at h
 | .aJ _, _, _, h => by simp [V.R] at h
 | .cu _, _, _, h => by simp [V.R] at h
 | .agg cs, _, hr, h => by
  simp only [V.refs] at hr
  simp only [V.R] at h ⊢
  obtain ⟨vs, h1, h2⟩ := h
  exact ⟨vs, h1, uI cs _ hr h2⟩
 | .tup cs, _, hr, h => by
  simp only [V.refs] at hr
  simp only [V.R] at h ⊢
  obtain ⟨vs, h1, h2⟩ := h
  exact ⟨vs, h1, uI cs _ hr h2⟩
 | .fn _ cs, _, hr, h => by
  simp only [V.refs] at hr
  simp only [V.R] at h ⊢
  obtain ⟨vs, h1, h2⟩ := h
  exact ⟨vs, h1, uI cs _ hr h2⟩
 | .box _ cs, _, hr, h => by
  simp only [V.refs] at hr
  simp only [V.R] at h ⊢
  obtain ⟨vs, h1, h2⟩ := h
  exact ⟨vs, h1, uI cs _ hr h2⟩
 | .jX, _, _, h => by simpa only [V.R] using h
 | .lit _, _, _, h => by simpa only [V.R] using h
 | .b9, _, _, _ => by simp [V.R]
theorem uI : ∀ (cs : List V) (us : List Value), V.refsL cs = [] -> V.RL P I μ w cs us -> V.RL P I bY w cs us
 | [], _, _, h => by simpa only [V.RL] using h
 | c :: cs, _, hr, h => by
  simp only [V.refsL, List.append_eq_nil_iff] at hr
  simp only [V.RL] at h ⊢
  obtain ⟨u, us', h1, h2, h3⟩ := h
  exact ⟨u, us', h1, xT c u hr.1 h2, uI cs us' hr.2 h3⟩
end
theorem CR.D3 : ∀ {l : List V} {F : List Nat} {vs : List Value}, V.refsL l = [] -> CR P I μ w F l vs -> V.OL P I w F (flat l) vs
 | [], F, _, _, h => kG.2 (CR.fp.1 h)
 | x :: t, F, vs, hr, h => by
  simp only [V.refsL, List.append_eq_nil_iff] at hr
  rcases fu x with ⟨o, c, rfl⟩ | hx
  ·obtain ⟨us, cD, F1, F2, rfl, rfl, h1, h2⟩ := CR.fM.1 h
   rw [gF]; exact h1.nU.append (CR.D3 hr.2 h2)
  ·obtain ⟨u, us, F1, F2, rfl, rfl, h1, h2⟩ := (CR.eF hx).1 h
   rw [eW hx]
   refine ll.2 ⟨u, us, F1, F2, rfl, rfl, ?_, CR.D3 hr.2 h2⟩
   unfold OX at h1
   cases hc : x.isO with
   | true => rwa [hc] at h1
   | false => rw [hc] at h1; exact (si hc).2 ⟨h1.1, xT _ _ hr.1 h1.2⟩
theorem CR.zy : ∀ {l : List V} {F : List Nat} {vs : List Value}, V.refsL l = [] -> hasO l = false -> CR P I μ w F l vs -> F = [] /\ V.RL P I bY w (flat l) vs
 | [], F, vs, _, _, h => by obtain ⟨rfl, rfl⟩ := CR.fp.1 h; simp [flat, V.RL]
 | x :: t, F, vs, hr, ho, h => by
  simp only [V.refsL, List.append_eq_nil_iff] at hr
  unfold hasO at ho
  rw [List.any_cons, Bool.or_eq_false_iff] at ho
  rcases fu x with ⟨o, c, rfl⟩ | hx
  ·obtain ⟨us, cD, F1, F2, rfl, rfl, h1, h2⟩ := CR.fM.1 h
   obtain ⟨rfl, h3⟩ := CR.zy hr.2 ho.2 h2
   cases o
   ·obtain ⟨rfl, h1⟩ := h1
    rw [gF]
    exact ⟨rfl, h1.append h3⟩
   ·simp [mkS] at ho
  ·obtain ⟨u, us, F1, F2, rfl, rfl, h1, h2⟩ := (CR.eF hx).1 h
   obtain ⟨rfl, h3⟩ := CR.zy hr.2 ho.2 h2
   rw [eW hx]
   have hn : x.isO = false := by cases x <;> first | rfl | simp at ho
   obtain ⟨rfl, h4⟩ := h1.plain hn
   refine ⟨rfl, ?_⟩
   simp only [V.RL]
   exact ⟨u, us, rfl, xT _ _ hr.1 h4, h3⟩
theorem CR.KF {l : List V} {F : List Nat} {vs : List Value} (hr : V.refsL l = []) (h : CR P I μ w F l vs) : OS P I w (hasO l) F (flat l) vs := by
 cases ho : hasO l with
 | true => exact h.D3 hr
 | false => exact h.zy hr ho
theorem OS.split {o : Bool} {F : List Nat} {l : List V} {vs : List Value} (h : OS P I w o F l vs) (n : Nat) : ∃ F1 F2, F = F1 ++ F2 /\ OS P I w o F1 (l.take n) (vs.take n) /\ OS P I w o F2 (l.drop n) (vs.drop n) := by
 cases o
 ·obtain ⟨rfl, h⟩ := h
  exact ⟨[], [], rfl, ⟨rfl, h.take n⟩, ⟨rfl, h.drop n⟩⟩
 ·exact V.OL.split h n
theorem xU (v : Value) : V.R P I μ w (ofScalar v) v := by
 unfold ofScalar
 split <;> simp only [V.R]
 exact ⟨none, 0, rfl, Nat.le_refl _, fun _ => rfl, .inl ⟨rfl, rfl⟩, .inl trivial⟩
theorem xQ : ∀ (l : List Value), V.RL P I μ w (l.map ofScalar) l
 | [] => by simp [V.RL]
 | v :: l => by simp only [List.map_cons, V.RL]; exact ⟨v, l, rfl, xU v, xQ l⟩
theorem Gi (v : Value) : V.R P I μ w (ofValue v) v := by
 unfold ofValue
 split
 ·simp only [V.R]; exact ⟨_, rfl, xQ _⟩
 ·exact xU v
end
abbrev aa (n : Int) : V := .int .i64 n
structure Out where
 v : V
 hp : Hp
 acc : List Nat
 wr : List Nat
def jA : TypeDesc -> Bool
 | .struct _ | .array _ _ => true
 | _ => false
def da (P : Program) (t : TypeId) : Option Nat := (P.info? t).map (·.size)
def cellsV : V -> List V
 | .agg cs => cs
 | c => [c]
def V.flat : V -> Bool
 | .agg _ => true
 | c => c.one
def offs {α : Type} (base rel : Nat) (k : Nat -> α) : α := match rel with
 | 0 => k base
 | r + 1 => k (base + (r + 1))
theorem nM {α : Type} (base rel : Nat) (k : Nat -> α) : offs base rel k = k (base + rel) := by cases rel <;> rfl
def V.asPtr : V -> V
 | .eptr b base rel => offs base rel fun o => .ptr b o
 | v => v
def iJ (l : List V) : Bool := l.all fun c => !c.isO
def evLoad (P : Program) (hp : Hp) (t : TypeId) (x : V) : Option Out := match x.asPtr with
 | .ptr b off =>
  match hp[b]?, P.underlying t, da P t with
  | some (some blk), some d, some s =>
   match jA d with
   | true => if (((flat blk.1).drop off).take s).length = s /\ ((!hasO blk.1 || iJ (((flat blk.1).drop off).take s)) && dQ blk.2) = true then some ⟨.agg (((flat blk.1).drop off).take s), hp, [b], []⟩ else none
   | false => match (flat blk.1)[off]? with
    | some c => match c.isO || Nat.beq blk.2 kV with
     | false => some ⟨c, hp, [b], []⟩
     | true => none
    | none => none
  | _, _, _ => none
 | .dptr cs =>
  match P.underlying t, da P t with
  | some d, some s =>
   match jA d with
   | true => if (cs.take s).length = s then some ⟨.agg (cs.take s), hp, [], []⟩ else none
   | false => match cs with
    | c :: _ => some ⟨c, hp, [], []⟩
    | [] => none
  | _, _ => none
 | _ => none
def spliceV (l : List V) (off s : Nat) (new : List V) : Option (List V) :=
 match c7 l with
 | false => some (l.take off ++ new ++ l.drop (off + s))
 | true => match V.refsL l with
  | [] => some (mkS (hasO l) ((flat l).take off) :: (new ++ [mkS (hasO l) ((flat l).drop (off + s))]))
  | _ => none
def evStore (P : Program) (hp : Hp) (t : TypeId) (x y : V) : Option Out :=
 match x.asPtr with
 | .ptr b off =>
  match hp[b]?, da P t with
  | some (some blk), some s =>
   if y.flat = true /\ (cellsV y).length = s /\ (cellsV y).all V.one = true /\ off + s <= (flat blk.1).length /\ dQ blk.2 = true then
    match spliceV blk.1 off s (cellsV y) with
    | some l => some ⟨.b9, hp.set b (some (l, blk.2)), [b], [b]⟩
    | none => none
   else none
  | _, _ => none
 | _ => none
def ofScalarN (v : Value) : V := match v with
 | .slice none 0 0 => .lit (.slice none 0 0)
 | v => ofScalar v
def zcells (P : Program) (t : TypeId) (z : Array Value) : List V := match da P t with
 | some s => match Nat.ble 65 s with
  | true => z.toList.map ofScalarN
  | false => z.toList.map ofScalar
 | none => z.toList.map ofScalar
def evAlloc (P : Program) (hp : Hp) (t : TypeId) : Option Out :=
 match (P.info? t).bind (·.zero) with
 | some z => some ⟨.ptr hp.length 0, hp ++ [some (zcells P t z.cells, t)], [], []⟩
 | none => none
def x9 (hp : Hp) (t : TypeId) (x : V) : Option Out :=
 if x.flat = true then some ⟨.ptr hp.length 0, hp ++ [some (cellsV x, t)], [], []⟩ else none
def fillV (place : Nat -> Option (Nat × Nat)) (cells : List V) : List (Nat × V) -> Option (List V)
 | [] => some cells
 | (i, x) :: rest =>
  match place i with
  | none => none
  | some (off, size) =>
   if x.flat = true /\ (cellsV x).length = size /\ off + size <= cells.length then fillV place (cells.take off ++ cellsV x ++ cells.drop (off + size)) rest
   else none
def evBuild (P : Program) (hp : Hp) (t : TypeId) (ps : List (Nat × V)) : Option Out :=
 match P.info? t, P.underlying t with
 | some it, some (.struct fields) =>
  match it.zero, fields.toList.mapM (fun f => (P.info? f.type).map fun i => (f.offset, i.size)) with
  | some z, some rk =>
   match fillV (rk[·]?) (zcells P t z.cells) ps with
   | some cells => some ⟨.agg cells, hp, [], []⟩
   | none => none
  | _, _ => none
 | _, _ => none
def gB (z : List V) (n : Nat) : List V := (List.range n).map fun i => z.getD (i % z.length) .b9
def evBuildSlice (P : Program) (hp : Hp) (t : TypeId) (n : Nat) (ps : List (Nat × V)) : Option Out :=
 match P.underlying t with
 | some (.slice elem) =>
  match P.info? elem with
  | some i =>
   match i.zero with
   | some z =>
    if n * i.size <= 16777216 /\ 0 < i.size /\ z.cells.size = i.size then
     match fillV (fun k => some (k * i.size, i.size)) (gB (z.cells.toList.map ofScalar) (n * i.size)) ps with
     | some cells => some ⟨.sl hp.length 0 n true, hp ++ [some (cells, elem)], [], []⟩
     | none => none
    else none
   | none => none
  | none => none
 | _ => none
def evMakeSlice (P : Program) (hp : Hp) (t : TypeId) : V -> V -> Option Out
 | .int _ l, .int _ c =>
  match P.underlying t with
  | some (.slice elem) =>
   match P.info? elem with
   | some i =>
    match i.zero with
    | some z =>
     if 0 <= l /\ l <= c /\ c <= 1048576 /\ i.bytes <= 1048576 /\ 0 < i.size /\ z.cells.size = i.size then
      some ⟨.sl hp.length 0 l.toNat (l == c), hp ++ [some ([.aJ (gB (z.cells.toList.map ofScalar) (c.toNat * i.size))], elem)], [], []⟩
     else none
    | none => none
   | none => none
  | _ => none
 | _, _ => none
def fl (l : List V) (off k : Nat) : List V := if off = 0 /\ (flat l).length = k then l else ((flat l).drop off).take k
def srcV (hp : Hp) (size : Nat) : V -> Option (List Nat × Nat × List V)
 | .sl b off m _ =>
  match hp[b]? with
  | some (some blk) => if (((flat blk.1).drop off).take (m * size)).length = m * size /\ (((flat blk.1).drop off).take (m * size)).all V.one = true then some ([b], m, fl blk.1 off (m * size)) else none
  | _ => none
 | .dsl m _ cs => if (cs.take (m * size)).length = m * size /\ (cs.take (m * size)).all V.one = true then some ([], m, [.aJ (cs.take (m * size))]) else none
 | _ => none
def evAppend (P : Program) (hp : Hp) (t t' : TypeId) (s x : V) : Option Out :=
 match P.underlying t with
 | some (.slice elem) =>
  match P.info? elem with
  | some i =>
   match i.zero, t == t' with
   | some z, true =>
    if 0 < i.size /\ z.cells.size = i.size then
     match srcV hp i.size x with
     | some (bs, m, news) =>
      match s with
      | .sl b off n full =>
        match hp[b]? with
        | some (some blk) =>
         if (((flat blk.1).drop off).take (n * i.size)).length = n * i.size /\ n + m <= maxLen /\ (n + m) * i.bytes <= 140737488355328 /\ blk.2 = elem /\ off = 0 then
          some ⟨.sl hp.length 0 (n + m) false, hp.set b none ++ [some (fl blk.1 0 (n * i.size) ++ news, elem)], b :: bs, [b]⟩
         else none
        | _ => none
      | .dsl n full cs =>
       match m with
       | 0 => some ⟨.dsl n full cs, hp, bs, []⟩
       | _ + 1 => if full = true /\ (cs.take (n * i.size)).length = n * i.size /\ n + m <= maxLen /\ (n + m) * i.bytes <= 140737488355328 then
         some ⟨.sl hp.length 0 (n + m) false, hp ++ [some (.aJ (cs.take (n * i.size)) :: news, elem)], bs, []⟩ else none
      | _ => none
     | none => none
    else none
   | _, _ => none
  | none => none
 | _ => none
def evLen (P : Program) (hp : Hp) (t : TypeId) : V -> Option Out
 | .str l => match P.underlying t with
  | some .string => some ⟨.int .i64 l.length, hp, [], []⟩
  | _ => none
 | .sl _ _ n _ => match P.underlying t with
  | some (.slice _) => some ⟨.int .i64 n, hp, [], []⟩
  | _ => none
 | .dsl n _ _ => match P.underlying t with
  | some (.slice _) => some ⟨.int .i64 n, hp, [], []⟩
  | _ => none
 | _ => none
def flatEq (P : Program) (f : Field) (x y : V) : Option Bool :=
 match P.underlying f.type, x, y with
 | some (.int _), .int k a, .int k' b => if k = k' then some (a == b) else none
 | some .bool, .bool a, .bool b => some (a == b)
 | some .string, .str a, .str b => some (a == b)
 | _, _, _ => none
def flatEqs (P : Program) (xs ys : List V) : List Field -> Option Bool
 | [] => some true
 | f :: fs =>
  if f.name = "_" then none else
  match xs[f.offset]?, ys[f.offset]? with
  | some x, some y =>
   match flatEq P f x y with
   | some true => flatEqs P xs ys fs
   | some false => some false
   | none => none
  | _, _ => none
def evCmp (op : BinOp) (a b : Int) : Option V :=
 match op with
 | .eql => some (.bool (a == b))
 | .neq => some (.bool (a != b))
 | .lss => some (.bool (decide (a < b)))
 | .leq => some (.bool (decide (a <= b)))
 | .gtr => some (.bool (decide (a > b)))
 | .geq => some (.bool (decide (a >= b)))
 | _ => none
def evStr (op : BinOp) (a b : List UInt8) : Option V :=
 match op with
 | .add => if a.length + b.length <= 4611686018427387904 then some (.str (a ++ b)) else none
 | .eql => some (.bool (a == b))
 | .neq => some (.bool !(a == b))
 | .lss => some (.bool (Op.bytesLess a b))
 | .leq => some (.bool (Op.bytesLess a b || a == b))
 | .gtr => some (.bool !(Op.bytesLess a b || a == b))
 | .geq => some (.bool !(Op.bytesLess a b))
 | _ => none
def evInt (op : BinOp) (k : IntKind) (a b : Int) : Option V :=
 match op with
 | .add => some (.int k (k.wrap (a + b)))
 | .sub => some (.int k (k.wrap (a - b)))
 | .mul => some (.int k (k.wrap (a * b)))
 | .quo => if b = 0 then none else some (.int k (k.wrap (a.tdiv b)))
 | .rem => if b = 0 then none else some (.int k (a.tmod b))
 | op => evCmp op a b
def evBin (P : Program) (op : BinOp) (t : TypeId) : V -> V -> Option V
 | .int k a, .int k' b => if k = k' then evInt op k a b else none
 | .str a, .str b => evStr op a b
 | .bool a, .bool b => match P.underlying t, op with
  | some .bool, .eql => some (.bool (a == b))
  | some .bool, .neq => some (.bool (!(a == b)))
  | _, _ => none
 | .agg xs, .agg ys => match P.underlying t, P.stoodInHeld t, P.eqGuardType P.depth t, op with
  | some (.struct fs), false, false, .eql => (flatEqs P xs ys fs.toList).map fun r => .bool r
  | some (.struct fs), false, false, .neq => (flatEqs P xs ys fs.toList).map fun r => .bool (!r)
  | _, _, _, _ => none
 | _, _ => none
def evUn (op : UnOp) : V -> Option V
 | .int k n => match op with
  | .neg => some (.int k (k.wrap (0 - n)))
  | _ => none
 | .bool b => match op with
  | .not => some (.bool (!b))
  | _ => none
 | _ => none
def bytesV : List V -> Option (List UInt8)
 | [] => some []
 | .int .u8 n :: cs => if 0 <= n /\ n < 256 then (bytesV cs).map (UInt8.ofNat n.toNat :: ·) else none
 | _ => none
def evConv (P : Program) (hp : Hp) (s d : TypeId) : V -> Option Out
 | .int _ n => match P.underlying s, P.underlying d with
  | some (.int _), some (.int k) => some ⟨.int k (k.wrap n), hp, [], []⟩
  | _, _ => none
 | .str l => match P.underlying s, P.underlying d with
  | some .string, some .string => some ⟨.str l, hp, [], []⟩
  | some .string, some (.slice e) => match P.underlying e, P.info? e with
   | some (.int .u8), some i => if l.length <= maxLen /\ i.size = 1 then some ⟨.sl hp.length 0 l.length false, hp ++ [some ([.aJ (l.map fun b => V.int .u8 b.toNat)], e)], [], []⟩ else none
   | _, _ => none
  | _, _ => none
 | .sl b off n _ => match P.underlying s, P.underlying d with
  | some (.slice e), some .string => match P.underlying e, hp[b]? with
   | some (.int .u8), some (some blk) =>
    if (((flat blk.1).drop off).take n).length = n then
     match bytesV (((flat blk.1).drop off).take n) with
     | some l => some ⟨.str l, hp, [b], []⟩
     | none => none
    else none
   | _, _ => none
  | _, _ => none
 | .dsl n _ cs => match P.underlying s, P.underlying d with
  | some (.slice e), some .string => match P.underlying e with
   | some (.int .u8) =>
    if (cs.take n).length = n then
     match bytesV (cs.take n) with
     | some l => some ⟨.str l, hp, [], []⟩
     | none => none
    else none
   | _ => none
  | _, _ => none
 | _ => none
def evBound (x : Option V) (gR mI : Nat) : Option Nat :=
 match x with
 | none => some gR
 | some (.int _ i) => if 0 <= i /\ i <= mI then some i.toNat else none
 | _ => none
def evSlice (P : Program) (hp : Hp) (t : TypeId) (x : V) (lo hi mx : Option V) : Option Out :=
 match x, mx with
 | .str l, none =>
  match P.underlying t, evBound hi l.length l.length with
  | some .string, some h => match evBound lo 0 h with
   | some k => some ⟨.str ((l.take h).drop k), hp, [], []⟩
   | none => none
  | _, _ => none
 | .sl b off n full, none =>
  match P.underlying t, evBound hi n n, hp[b]? with
  | some (.slice e), some h, some (some blk) => match evBound lo 0 h, da P e, blk.2 == e with
   | some k, some s, true =>
    match lo with
    | none => some ⟨.sl b off h (full && h == n), hp, [b], []⟩
    | some _ => if k < h then some ⟨.sl b (off + k * s) (h - k) (full && h == n), hp, [b], []⟩ else some ⟨.dsl 0 (full && h == n) [], hp, [b], []⟩
   | _, _, _ => none
  | _, _, _ => none
 | .sl b off n _, some m =>
  match P.underlying t, evBound (some m) 0 n, hi, hp[b]? with
  | some (.slice e), some m, some hi, some (some blk) => match evBound (some hi) 0 m with
   | some h => match evBound lo 0 h, da P e, blk.2 == e with
    | some k, some s, true =>
     if k = h then some ⟨.dsl 0 (m == h) [], hp, [b], []⟩
     else some ⟨.sl b (off + k * s) (h - k) (m == h), hp, [b], []⟩
    | _, _, _ => none
   | none => none
  | _, _, _, _ => none
 | .dsl n full cs, none =>
  match P.underlying t, evBound hi n n with
  | some (.slice e), some h => match evBound lo 0 h, da P e with
   | some k, some s => some ⟨.dsl (h - k) (full && h == n) ((cs.take (h * s)).drop (k * s)), hp, [], []⟩
   | _, _ => none
  | _, _ => none
 | .dsl n _ cs, some m =>
  match P.underlying t, evBound (some m) 0 n, hi with
  | some (.slice e), some m, some hi => match evBound (some hi) 0 m with
   | some h => match evBound lo 0 h, da P e with
    | some k, some s => some ⟨.dsl (h - k) (m == h) ((cs.take (h * s)).drop (k * s)), hp, [], []⟩
    | _, _ => none
   | none => none
  | _, _, _ => none
 | _, _ => none
def fieldOf (P : Program) (t : TypeId) (f : Nat) : Option Field :=
 match P.underlying t with
 | some (.struct fields) => fields[f]?
 | _ => none
def Ej (P : Program) (t : TypeId) (cs : List V) (off : Nat) : Option V :=
 match P.underlying t, da P t with
 | some d, some s => match jA d with
  | true => some (.agg ((cs.drop off).take s))
  | false => cs[off]?
 | _, _ => none
def evIndex (P : Program) (t : TypeId) : V -> V -> Option V
 | .str l, .int _ i => match P.underlying t with
  | some .string => if 0 <= i then (l[i.toNat]?).map fun b => .int .u8 b.toNat else none
  | _ => none
 | _, _ => none
def HE : V -> V -> Option V
 | .int k a, .int _ b => some (.int k (if b < a then b else a))
 | _, _ => none
def HD : V -> V -> Option V
 | .int k a, .int _ b => some (.int k (if b > a then b else a))
 | _, _ => none
def evPlain (P : Program) (e : Operand -> V) (hp : Hp) : Op -> Option Out
 | .move x => some ⟨e x, hp, [], []⟩
 | .assign x => some ⟨e x, hp, [], []⟩
 | .pick c a b => match e c with
  | .bool t => some ⟨if t then e a else e b, hp, [], []⟩
  | _ => none
 | .alloc t => evAlloc P hp t
 | .box t x => x9 hp t (e x)
 | .build t ps => evBuild P hp t (ps.toList.map fun p => (p.1, e p.2))
 | .buildSlice t n ps => evBuildSlice P hp t n (ps.toList.map fun p => (p.1, e p.2))
 | .load t x => evLoad P hp t (e x)
 | .store t x y => evStore P hp t (e x) (e y)
 | .nilCheck x => match e x with
  | .ptr b off => some ⟨.ptr b off, hp, [], []⟩
  | .dptr cs => some ⟨.dptr cs, hp, [], []⟩
  | .eptr b base rel => some ⟨.eptr b base rel, hp, [], []⟩
  | _ => none
 | .binOp op t x y _ => (evBin P op t (e x) (e y)).map fun v => ⟨v, hp, [], []⟩
 | .unOp op _ x => (evUn op (e x)).map fun v => ⟨v, hp, [], []⟩
 | .convert s d x => evConv P hp s d (e x)
 | .makeFunc (.func f) first cap => match first.toList with
  | [] => some ⟨.fn f (cap.toList.map e), hp, [], []⟩
  | _ => none
 | .makeSlice t l c => evMakeSlice P hp t (e l) (e c)
 | .slice t x lo hi mx => evSlice P hp t (e x) (lo.map e) (hi.map e) (mx.map e)
 | .fieldAddr t x f => match e x, fieldOf P t f with
  | .ptr b off, some fd => match da P fd.type with
   | some (_ + 1) => some ⟨.ptr b (off + fd.offset), hp, [], []⟩
   | _ => none
  | .dptr cs, some fd => match da P fd.type with
   | some (_ + 1) => some ⟨.dptr (cs.drop fd.offset), hp, [], []⟩
   | _ => none
  | .eptr b base rel, some fd => match da P fd.type with
   | some (_ + 1) => some ⟨.eptr b base (rel + fd.offset), hp, [], []⟩
   | _ => none
  | _, _ => none
 | .field t x f => match e x, fieldOf P t f with
  | .agg cs, some fd => (Ej P fd.type cs fd.offset).map fun v => ⟨v, hp, [], []⟩
  | _, _ => none
 | .indexAddr t x i => match e x, e i, P.underlying t with
  | .sl b off n _, .int _ i, some (.slice el) => match da P el with
   | some s => if 0 <= i /\ i < n then some ⟨.eptr b (off + i.toNat * s) 0, hp, [], []⟩ else none
   | none => none
  | .dsl n _ cs, .int _ i, some (.slice el) => match da P el with
   | some s => if 0 <= i /\ i < n then some ⟨.dptr (cs.drop (i.toNat * s)), hp, [], []⟩ else none
   | none => none
  | _, _, _ => none
 | .index t x i => (evIndex P t (e x) (e i)).map fun v => ⟨v, hp, [], []⟩
 | .extract x i => match e x with
  | .tup vs => (vs[i]?).map fun v => ⟨v, hp, [], []⟩
  | _ => none
 | .call c => match c.callee, c.args.toList, c.argTypes.toList with
  | .builtin .append, [s, x], [t, t'] => evAppend P hp t t' (e s) (e x)
  | .builtin .len, [x], [t] => evLen P hp t (e x)
  | .builtin .min, [x, y], _ => (HE (e x) (e y)).map fun v => ⟨v, hp, [], []⟩
  | .builtin .max, [x, y], _ => (HD (e x) (e y)).map fun v => ⟨v, hp, [], []⟩
  | _, _, _ => none
 | _ => none
structure cK (P : Program) (I : Nat -> Prop) (μ : Mu) (w : World) (hp : Hp) (acc : List Nat) (top : Nat) : Prop where
 dj : kF P I w
 holds : ∀ b ∈ acc, ∀ blk, hp[b]? = some (some blk) -> Holds P I μ w b blk
 inj : ∀ b ∈ acc, ∀ c ∈ acc, ∀ blk bG g, b ≠ c -> hp[b]? = some (some blk) -> hp[c]? = some (some bG) -> μ.own b g -> μ.own c g -> False
 fresh : ∀ b, hp.length <= b -> b < top -> μ b = none
structure Good (P : Program) (I I' : Nat -> Prop) (μ μ' : Mu) (w w' : World) (hp ez : Hp) (acc wr : List Nat) : Prop where
 dq : Sub I I'
 ei : ∀ k, I' k -> I k \/ (w.heap.size <= k /\ k < w'.heap.size) \/ ∃ c ∈ wr, μ.own c k /\ ∃ blk, hp[c]? = some (some blk)
 cr : cy I w w' (fun k => ∃ b ∈ wr, μ.own b k)
 le : df μ μ'
 cz : ∀ b g, μ' b = some g -> μ b = some g \/ (hp.length <= b /\ b < ez.length)
 cT : ∀ b, b ∉ wr -> ¬ (hp.length <= b /\ b < ez.length) -> μ'.ft b = μ.ft b
 holds : ∀ b, (b ∈ acc \/ hp.length <= b) -> ∀ blk, ez[b]? = some (some blk) -> Holds P I' μ' w' b blk
 dI : ∀ b, (hp.length <= b \/ b ∈ wr) -> ∀ blk, ez[b]? = some (some blk) -> ∀ g, μ'.own b g -> w.heap.size <= g \/ ∃ c ∈ wr, μ.own c g /\ ∃ blk, hp[c]? = some (some blk)
 inj : ∀ b c blk bG g, b ≠ c -> (b ∈ acc \/ hp.length <= b) -> (c ∈ acc \/ hp.length <= c) -> ez[b]? = some (some blk) -> ez[c]? = some (some bG) -> μ'.own b g -> μ'.own c g -> False
structure Tidy (hp ez : Hp) (acc wr : List Nat) : Prop where
 len : hp.length <= ez.length
 frame : ∀ b, b < hp.length -> b ∉ wr -> ez[b]? = hp[b]?
 j8 : ∀ b ∈ wr, b ∈ acc
 iu : ∀ b ∈ acc, b < hp.length
 j7 : ∀ b ∈ wr, ∃ blk, hp[b]? = some (some blk)
section
variable {P : Program} {I : Nat -> Prop} {μ μ' : Mu} {w w' : World} {hp : Hp} {out : Out}
theorem Good.same {acc : List Nat} (hp : Hp) (pre : cK P I μ w hp acc hp.length) : Good P I I μ μ w w hp hp acc [] := by
 refine ⟨.refl _, fun _ h => .inl h, .refl _ _, .refl _, fun b g h => .inl h, fun _ _ _ => rfl, fun b hb blk bu => ?_, fun b hb blk bu => ?_, fun b c blk bG g bp hb hc h1 h2 => ?_⟩
 ·rcases hb with hb | hb
  ·exact pre.holds b hb blk bu
  ·rw [List.getElem?_eq_none hb] at bu; cases bu
 ·rcases hb with hb | hb
  ·rw [List.getElem?_eq_none hb] at bu; cases bu
  ·cases hb
 ·rcases hb with hb | hb
  ·rcases hc with hc | hc
   ·exact pre.inj b hb c hc blk bG g bp h1 h2
   ·rw [List.getElem?_eq_none hc] at h2; cases h2
  ·rw [List.getElem?_eq_none hb] at h1; cases h1
def Mu.put (μ : Mu) (b g : Nat) (F : List Nat) : Mu := ⟨fun c => if c = b then some g else μ c, fun c => if c = b then F else μ.ft c⟩
def Mu.dY (μ : Mu) (b : Nat) (F : List Nat) : Mu := ⟨μ.nm, fun c => if c = b then F else μ.ft c⟩
theorem Mu.ky (μ : Mu) (b g : Nat) (F : List Nat) : μ.put b g F b = some g := by simp [Mu.put]
theorem Mu.pD (μ : Mu) {b c : Nat} (g : Nat) (F : List Nat) (h : c ≠ b) : μ.put b g F c = μ c := by simp [Mu.put, h]
theorem Mu.mM (μ : Mu) (b g : Nat) (F : List Nat) : (μ.put b g F).ft b = F := by simp [Mu.put]
theorem Mu.rm (μ : Mu) {b c : Nat} (g : Nat) (F : List Nat) (h : c ≠ b) : (μ.put b g F).ft c = μ.ft c := by simp [Mu.put, h]
theorem Mu.fN (μ : Mu) (b : Nat) (F : List Nat) : (μ.dY b F).ft b = F := by simp [Mu.dY]
theorem Mu.jB (μ : Mu) {b c : Nat} (F : List Nat) (h : c ≠ b) : (μ.dY b F).ft c = μ.ft c := by simp [Mu.dY, h]
theorem Mu.tL (μ : Mu) {b c g k : Nat} {F : List Nat} (h : c ≠ b) (hk : (μ.put b g F).own c k) : μ.own c k := by
 rcases hk with hk | hk
 ·rw [Mu.pD _ _ _ h] at hk; exact .inl hk
 ·rw [Mu.rm _ _ _ h] at hk; exact .inr hk
theorem Mu.ri (μ : Mu) {b g k : Nat} {F : List Nat} (hk : (μ.put b g F).own b k) : k = g \/ k ∈ F := by
 rcases hk with hk | hk
 ·rw [Mu.ky] at hk; cases hk; exact .inl rfl
 ·rw [Mu.mM] at hk; exact .inr hk
theorem Mu.Er {b g : Nat} {F : List Nat} (h : μ b = none) : df μ (μ.put b g F) := fun c g' hc => by
 rw [Mu.pD]; exact hc
 rintro rfl; rw [h] at hc; cases hc
theorem Mu.ru (b : Nat) (F : List Nat) : df μ (μ.dY b F) := fun c g' hc => hc
theorem Mu.Yd (μ : Mu) {b c k : Nat} {F : List Nat} (h : c ≠ b) (hk : (μ.dY b F).own c k) : μ.own c k := by
 rcases hk with hk | hk
 ·exact .inl hk
 ·rw [Mu.jB _ _ h] at hk; exact .inr hk
theorem kJ {hp : Hp} {blk : bM} {b : Nat} {bG : bM} (h : (hp ++ [some blk])[b]? = some (some bG)) : (b < hp.length /\ hp[b]? = some (some bG)) \/ (b = hp.length /\ bG = blk) := by
 rw [List.getElem?_append] at h
 split at h
 ·rename_i hb; exact .inl ⟨hb, h⟩
 ·rename_i hb
  right
  cases hk : b - hp.length with
  | zero => rw [hk] at h; simp at h; exact ⟨af, h.symm⟩
  | succ k => rw [hk] at h; simp at h
theorem tZ {hp : Hp} {b c : Nat} {blk : bM} (h : (hp.set b none)[c]? = some (some blk)) : c ≠ b /\ hp[c]? = some (some blk) := by
 rw [List.getElem?_set] at h
 split at h
 ·first | (cases h; done) | (split at h <;> cases h)
 ·rename_i hc; exact ⟨fun e => hc e.symm, h⟩
theorem tY {hp : Hp} {b c : Nat} {X blk : bM} (h : (hp.set b (some X))[c]? = some (some blk)) : (c = b /\ blk = X) \/ (c ≠ b /\ hp[c]? = some (some blk)) := by
 rw [List.getElem?_set] at h
 split at h
 ·rename_i e
  split at h
  ·cases h; exact .inl ⟨e.symm, rfl⟩
  ·cases h
 ·rename_i e; exact .inr ⟨fun x => e x.symm, h⟩
theorem Good.zt {acc : List Nat} {blk : bM} {cs : Array Value} {fr : Nat × Nat} {wd : World} (hd : wd = w \/ wd = w.drew) (pre : cK P I μ w hp acc (hp.length + 1)) (dP : fr.2 <= fr.1 \/ cs.size <= fr.1)
  (hr : gC P I μ w [] blk.1 cs) :
  Good P I I μ (μ.put hp.length w.heap.size []) w (wd.alloc (.cells cs blk.2 fr)) hp (hp ++ [some blk]) acc [] /\
   (wd.alloc (.cells cs blk.2 fr)).shape? w.heap.size = some (blk.2, cs.size) := by
 have cM : wd.heap.size = w.heap.size := by rcases hd with rfl | rfl <;> rfl
 have hE : cy I w (wd.alloc (.cells cs blk.2 fr)) (fun k => ∃ b ∈ ([] : List Nat), μ.own b k) := by
  rcases hd with rfl | rfl
  ·exact .alloc _ _ _
  ·exact (cy.drew w _).trans (.alloc _ _ _) (.refl _) (fun _ _ h => h)
 have hle : df μ (μ.put hp.length w.heap.size []) := Mu.Er (pre.fresh _ (Nat.le_refl _) af)
 have tz : (wd.alloc (.cells cs blk.2 fr)).heap[w.heap.size]? = some (.cells cs blk.2 fr) := by rw [<- cM]; exact heap_alloc_new wd _
 refine ⟨⟨.refl _, fun _ h => .inl h, hE, hle, fun b g h => ?_, fun b _ hb => ?_, fun b hb bG bu => ?_, fun b hb bG bu g hg => ?_, fun b c bG eL g bp hb hc h1 h2 g1 g2 => ?_⟩, mS tz⟩
 ·by_cases bI : b = hp.length
  ·right; simp; omega
  ·left; rwa [Mu.pD _ _ _ bI] at h
 ·exact Mu.rm _ _ _ (by rintro rfl; exact hb ⟨Nat.le_refl _, by simp⟩)
 ·rcases kJ bu with ⟨hl, h⟩ | ⟨rfl, rfl⟩
  ·rcases hb with hb | hb
   ·have bp : b ≠ hp.length := af
    exact (pre.holds b hb bG h).keep hE (.refl _) hle (fun h0 => by rw [Mu.pD _ _ _ bp]; exact h0) (Mu.rm _ _ _ bp) (fun g _ hx => by obtain ⟨c, hc, _⟩ := hx; cases hc) (fun g hg => (pre.holds b hb bG h).ku hg)
   ·omega
  ·refine .inl ⟨w.heap.size, cs, fr, Mu.ky _ _ _ _, fun hi => Nat.lt_irrefl _ (pre.dj _ hi), tz, dP, ?_, ?_, ?_⟩
   ·rw [Mu.mM]; exact hr.keep (by simp) hE (Sub.refl _) hle
   ·rw [Mu.mM]; simp
   ·rw [Mu.mM]; simp
 ·rcases kJ bu with ⟨hl, h⟩ | ⟨rfl, rfl⟩
  ·rcases hb with hb | hb
   ·omega
   ·cases hb
  ·rcases Mu.ri _ hg with rfl | hg
   ·exact .inl (Nat.le_refl _)
   ·cases hg
 ·have eo : ∀ b bG, (b ∈ acc \/ hp.length <= b) -> b < hp.length -> hp[b]? = some (some bG) -> ∀ g, μ.own b g -> g < w.heap.size := by
   intro b bG hb hl h g hg
   rcases hb with hb | hb
   ·exact (pre.holds b hb bG h).lt hg
   ·omega
  rcases kJ h1 with ⟨hl, h⟩ | ⟨rfl, rfl⟩
  ·have g1' := Mu.tL _ af g1
   rcases kJ h2 with ⟨gX, h'⟩ | ⟨rfl, rfl⟩
   ·have g2' := Mu.tL _ af g2
    rcases hb with hb | hb
    ·rcases hc with hc | hc
     ·exact pre.inj b hb c hc _ _ g bp h h' g1' g2'
     ·omega
    ·omega
   ·have := eo b bG hb hl h g g1'
    rcases Mu.ri _ g2 with rfl | g2
    ·omega
    ·cases g2
  ·rcases kJ h2 with ⟨gX, h'⟩ | ⟨rfl, rfl⟩
   ·have := eo c eL hc gX h' g (Mu.tL _ af g2)
    rcases Mu.ri _ g1 with rfl | g1
    ·omega
    ·cases g1
   ·exact bp rfl
theorem Good.new {acc : List Nat} {blk : bM} {cs : Array Value} {fr : Nat × Nat} {wd : World} (hd : wd = w \/ wd = w.drew) (pre : cK P I μ w hp acc (hp.length + 1)) (hs : blk.1.length <= cs.size) (dP : fr.2 <= fr.1 \/ cs.size <= fr.1)
  (hr : V.RL P I μ w blk.1 (cs.toList.take blk.1.length)) :
  Good P I I μ (μ.put hp.length w.heap.size []) w (wd.alloc (.cells cs blk.2 fr)) hp (hp ++ [some blk]) acc [] /\
   (wd.alloc (.cells cs blk.2 fr)).shape? w.heap.size = some (blk.2, cs.size) := Good.zt hd pre dP (.of hs hr)
theorem Tidy.same (hp : Hp) {acc : List Nat} (h : ∀ b ∈ acc, b < hp.length) : Tidy hp hp acc [] := ⟨Nat.le_refl _, fun _ _ _ => rfl, by simp, h, by simp⟩
theorem Tidy.new (hp : Hp) (blk : Option bM) {acc : List Nat} (h : ∀ b ∈ acc, b < hp.length) : Tidy hp (hp ++ [blk]) acc [] :=
 ⟨by simp, fun b hb _ => by rw [List.getElem?_append_left hb], by simp, h, by simp⟩
theorem Good.JD {acc : List Nat} {b g : Nat} {blk bG : bM} {cs : Array Value} {fr : Nat × Nat} {F : List Nat} {X : Nat -> Prop} (pre : cK P I μ w hp acc (hp.length + 1)) (hb : b ∈ acc) (bu : hp[b]? = some (some blk))
  (hE : cy I w w' X) (hX : ∀ k, X k -> μ.own b k) (Rg : ∀ k ∈ F, ¬ X k) (hF : F.Sublist (μ.ft b)) (hg : w.heap.size <= g /\ g < w'.heap.size \/ μ b = some g) (tp : ¬ I g)
  (hw : w'.heap[g]? = some (.cells cs bG.2 fr)) (dP : fr.2 <= fr.1 \/ cs.size <= fr.1) (hr : gC P I μ w F bG.1 cs) :
  Good P I I μ (μ.put hp.length g F) w w' hp (hp.set b none ++ [some bG]) acc [b] := by
 have Q8 : cy I w w' (fun k => ∃ c ∈ [b], μ.own c k) := hE.mono fun k hk => ⟨b, by simp, hX k hk⟩
 have hH := pre.holds b hb blk bu
 have bI : b < hp.length := (List.getElem?_eq_some_iff.1 bu).1
 have hle : df μ (μ.put hp.length g F) := Mu.Er (pre.fresh _ (Nat.le_refl _) af)
 have aL : ∀ c eL, (hp.set b none ++ [some bG])[c]? = some (some eL) -> (c < hp.length /\ c ≠ b /\ hp[c]? = some (some eL)) \/ (c = hp.length /\ eL = bG) := by
  intro c eL h
  rcases kJ h with ⟨hc, h⟩ | ⟨hc, h⟩
  ·obtain ⟨h1, h2⟩ := tZ h
   exact .inl ⟨by simpa using hc, h1, h2⟩
  ·exact .inr ⟨by simpa using hc, h⟩
 have oV : ∀ k ∈ F, μ.own b k := fun k hk => .inr (hF.subset hk)
 have eg : (g :: F).Nodup := by
  rw [List.nodup_cons]
  rcases hH with ⟨g', cs', fr', h1, _, h2, _, _, h5, h6⟩ | ⟨h1, h3⟩ | ⟨_, _, _, _, _, _, _, _, _, h3⟩
  ·rw [List.nodup_cons] at h5
   refine ⟨fun hm => ?_, h5.2.sublist hF⟩
   rcases hg with hg | hg
   ·have := (h6 g (hF.subset hm)).2; omega
   ·rw [hg] at h1; cases h1
    exact h5.1 (hF.subset hm)
  ·rw [h3] at hF
   rw [List.sublist_nil.1 hF]; simp
  ·rw [h3] at hF
   rw [List.sublist_nil.1 hF]; simp
 refine ⟨.refl _, fun _ h => .inl h, Q8, hle, fun c k h => ?_, fun c hc hn => ?_, fun c hc eL h => ?_, fun c hc eL h k hk => ?_, fun c d b1 b2 k bp hc hd h1 h2 k1 k2 => ?_⟩
 ·by_cases bQ : c = hp.length
  ·right; simp; omega
  ·left; rwa [Mu.pD _ _ _ bQ] at h
 ·exact Mu.rm _ _ _ (by rintro rfl; exact hn ⟨Nat.le_refl _, by simp⟩)
 ·rcases aL c eL h with ⟨hl, ee, h⟩ | ⟨rfl, rfl⟩
  ·rcases hc with hc | hc
   ·have bp : c ≠ hp.length := af
    exact (pre.holds c hc eL h).keep hE (.refl _) hle (fun h0 => by rw [Mu.pD _ _ _ bp]; exact h0) (Mu.rm _ _ _ bp) (fun k hk hx => pre.inj c hc b hb _ _ k ee h bu hk (hX k hx)) (fun k hk => (pre.holds c hc eL h).ku hk)
   ·omega
  ·refine .inl ⟨g, cs, fr, Mu.ky _ _ _ _, tp, hw, dP, ?_, ?_, fun k hk => ?_⟩
   ·rw [Mu.mM]; exact hr.keep Rg hE (Sub.refl _) hle
   ·rw [Mu.mM]; exact eg
   ·rw [Mu.mM] at hk
    exact ⟨hH.ku (oV k hk), Nat.lt_of_lt_of_le (hH.lt (oV k hk)) hE.size⟩
 ·rcases aL c eL h with ⟨hl, ee, _⟩ | ⟨rfl, rfl⟩
  ·rcases hc with hc | hc
   ·omega
   ·exact absurd (by simpa using hc) ee
  ·rcases Mu.ri _ hk with rfl | hk
   ·rcases hg with hg | hg
    ·exact .inl hg.1
    ·exact .inr ⟨b, by simp, .inl hg, ⟨_, bu⟩⟩
   ·exact .inr ⟨b, by simp, oV k hk, ⟨_, bu⟩⟩
 ·have key : ∀ c b1, c < hp.length -> c ≠ b -> (c ∈ acc \/ hp.length <= c) -> hp[c]? = some (some b1) -> μ.own c k -> (μ.put hp.length g F).own hp.length k -> False := by
   intro c b1 bQ ee hc h1 q1 q2
   have cF : c ∈ acc := by rcases hc with hc | hc; exact hc; omega
   rcases Mu.ri _ q2 with e | q2
   ·subst e
    rcases hg with hg | hg
    ·have := (pre.holds c cF _ h1).lt q1; omega
    ·exact pre.inj c cF b hb _ _ _ ee h1 bu q1 (.inl hg)
   ·exact pre.inj c cF b hb _ _ _ ee h1 bu q1 (oV k q2)
  rcases aL c b1 h1 with ⟨hl, ee, iy⟩ | ⟨ec, _⟩
  ·have JA := Mu.tL _ af k1
   rcases aL d b2 h2 with ⟨gX, oY, iV⟩ | ⟨ed, _⟩
   ·have cF : c ∈ acc := by rcases hc with hc | hc; exact hc; omega
    have lE : d ∈ acc := by rcases hd with hd | hd; exact hd; omega
    exact pre.inj _ cF _ lE _ _ k bp iy iV JA (Mu.tL _ af k2)
   ·subst ed; exact key c b1 hl ee hc iy JA k2
  ·subst ec
   rcases aL d b2 h2 with ⟨gX, oY, iV⟩ | ⟨ed, _⟩
   ·exact key d b2 gX oY hd iV (Mu.tL _ af k2) k1
   ·exact bp ed.symm
theorem Good.rY {acc : List Nat} {b g : Nat} {blk bG : bM} {eo cs : Array Value} {fr : Nat × Nat} {F : List Nat} (pre : cK P I μ w hp acc hp.length) (hb : b ∈ acc) (bu : hp[b]? = some (some blk)) (hg : μ b = some g)
  (hw : w.heap[g]? = some (.cells eo blk.2 fr)) (he : bG.2 = blk.2) (cM : cs.size = eo.size) (dP : fr.2 <= fr.1 \/ eo.size <= fr.1) (hF : F.Sublist (μ.ft b)) (hr : gC P I μ w F bG.1 cs) :
  Good P I I μ (μ.dY b F) w (w.setRow g cs) hp (hp.set b (some bG)) acc [b] := by
 have hH := pre.holds b hb blk bu
 have tc : cy I w (w.setRow g cs) (fun k => k = g) := .setRow w g eo cs _ fr hw cM (hH.ku (.inl hg))
 have hE : cy I w (w.setRow g cs) (fun k => ∃ c ∈ [b], μ.own c k) := tc.mono fun k hk => ⟨b, by simp, by rw [hk]; exact .inl hg⟩
 have bI : b < hp.length := (List.getElem?_eq_some_iff.1 bu).1
 obtain ⟨_, _, tp, _, _, _, eg, Ij⟩ := hH.LO hg hw
 rw [List.nodup_cons] at eg
 have nw : g ∉ F := fun h => eg.1 (hF.subset h)
 have bO : ∀ c eL, (hp.set b (some bG))[c]? = some (some eL) -> c < hp.length := by
  intro c eL h; have := (List.getElem?_eq_some_iff.1 h).1; simpa using this
 have fo : ∀ c k, (μ.dY b F).own c k -> μ.own c k := by
  intro c k hk
  by_cases ee : c = b
  ·subst ee
   rcases hk with hk | hk
   ·exact .inl hk
   ·rw [Mu.fN] at hk; exact .inr (hF.subset hk)
  ·exact Mu.Yd _ ee hk
 refine ⟨.refl _, fun _ h => .inl h, hE, Mu.ru _ _, fun b g h => .inl h, fun c hc _ => Mu.jB _ _ (by rintro rfl; simp at hc), fun c hc eL h => ?_, fun c hc eL h k hk => ?_, fun c d b1 b2 k bp hc hd h1 h2 k1 k2 => ?_⟩
 ·have bQ := bO c eL h
  rcases tY h with ⟨rfl, rfl⟩ | ⟨ee, h⟩
  ·refine .inl ⟨g, cs, fr, hg, tp, ?_, by rw [cM]; exact dP, ?_, ?_, fun k hk => ?_⟩
   ·rw [setRow_heap w g eo cs _ fr hw, he]
   ·rw [Mu.fN]; exact hr.keep (fun k hk e => nw (by have e' : k = g := e; rw [<- e']; exact hk)) tc (Sub.refl _) (Mu.ru _ _)
   ·rw [Mu.fN, List.nodup_cons]; exact ⟨nw, eg.2.sublist hF⟩
   ·rw [Mu.fN] at hk
    exact ⟨(Ij k (hF.subset hk)).1, Nat.lt_of_lt_of_le (Ij k (hF.subset hk)).2 tc.size⟩
  ·rcases hc with hc | hc
   ·refine (pre.holds c hc eL h).keep tc (.refl _) (Mu.ru _ _) (fun h => h) (Mu.jB _ _ ee) (fun k hk hx => ?_) (fun k hk => (pre.holds c hc eL h).ku hk)
    subst hx
    exact pre.inj c hc b hb _ _ k ee h bu hk (.inl hg)
   ·omega
 ·rcases hc with hc | hc
  ·have := bO c eL h; omega
  ·obtain rfl : c = b := by simpa using hc
   exact .inr ⟨c, by simp, fo c k hk, ⟨_, bu⟩⟩
 ·have bQ := bO c b1 h1
  have kO := bO d b2 h2
  have cF : c ∈ acc := by rcases hc with hc | hc; exact hc; omega
  have lE : d ∈ acc := by rcases hd with hd | hd; exact hd; omega
  have al : ∀ (c : Nat) (b1 : bM), (hp.set b (some bG))[c]? = some (some b1) -> ∃ x : bM, hp[c]? = some (some x) := by
   intro c b1 h
   rcases tY h with ⟨rfl, _⟩ | ⟨_, h⟩
   ·exact ⟨_, bu⟩
   ·exact ⟨_, h⟩
  obtain ⟨_, iy⟩ := al c b1 h1
  obtain ⟨_, iV⟩ := al d b2 h2
  exact pre.inj _ cF _ lE _ _ k bp iy iV (fo c k k1) (fo d k k2)
end
section
variable {P : Program} {I : Nat -> Prop} {μ μ' : Mu} {w w' : World} {hp : Hp} {out : Out}
theorem wj {t : TypeId} {d : TypeDesc} (h : P.underlying t = some d) (w : World) : (isAgg t).run P w = .ok (jA d) w := by
 unfold isAgg
 rw [Sem.run_bind, run_underlying h w]
 cases d <;> rfl
theorem run_sizeOf {t : TypeId} {s : Nat} (h : da P t = some s) (w : World) : (sizeOf t).run P w = .ok s w := by
 unfold da at h
 cases hi : P.info? t with
 | none => rw [hi] at h; cases h
 | some i => rw [hi] at h; simp at h; simp [sizeOf, typeInfo, hi, h]
theorem yy {c : V} {v : Value} (h : V.R P I μ w c v) (hf : c.flat = true) : V.RL P I μ w (cellsV c) v.cells.toList := by
 cases c
 case agg cs =>
  simp only [V.R] at h
  obtain ⟨vs, rfl, h⟩ := h
  exact h
 all_goals
  rw [(V.KV h hf).2]
  simp only [cellsV, V.RL]
  exact ⟨_, _, rfl, h, rfl⟩
theorem tK {cs : List V} {vs : List Value} (h : V.RL P I μ w cs vs) (h1 : cs.all V.one = true) : ∀ u ∈ vs, u.oneCell' = true := by
 intro u hu
 obtain ⟨j, hj, rfl⟩ := List.getElem_of_mem hu
 have hl := h.length
 have hc : cs[j]? = some (cs[j]' af) := List.getElem?_eq_getElem af
 obtain ⟨u', hu', hr⟩ := h.get hc
 rw [List.getElem?_eq_getElem hj] at hu'
 cases hu'
 exact (V.KV hr (List.all_eq_true.1 h1 _ (List.getElem_mem af))).1
theorem Holds.ZA {b : Nat} {blk : bM} (h : Holds P I μ w b blk) (hT : dQ blk.2 = true) {g : Nat} (hg : μ b = some g) : ∃ cs, Row w g blk.2 cs /\ (flat blk.1).length <= cs.size /\ CR P I μ w (μ.ft b) blk.1 (cs.toList.take (flat blk.1).length) := by
 obtain ⟨cs, fr, _, h2, h3, ⟨h4, h5⟩, _⟩ := h.real hT hg
 exact ⟨cs, ⟨fr, h2, h3⟩, h4, h5⟩
theorem Holds.Ma {b : Nat} {blk : bM} {s : TypeId × Nat} (h : Holds P I μ w b blk) {g : Nat} (hg : μ b = some g) (hs : w.shape? g = some s) : ∃ cs, Row w g blk.2 cs /\ (flat blk.1).length <= cs.size /\ CR P I μ w (μ.ft b) blk.1 (cs.toList.take (flat blk.1).length) := by
 obtain ⟨cs, fr, _, h2, h3, ⟨h4, h5⟩, _⟩ := h.kZ hg hs
 exact ⟨cs, ⟨fr, h2, h3⟩, h4, h5⟩
theorem CR.part {F : List Nat} {l : List V} {vs : List Value} (h : CR P I μ w F l vs) (off n : Nat) (ho : iJ (((flat l).drop off).take n) = true) : V.RL P I μ w (((flat l).drop off).take n) ((vs.drop off).take n) := by
 obtain ⟨_, F2, _, _, h2⟩ := h.la.split off
 obtain ⟨F3, _, _, h3, _⟩ := h2.split n
 exact (h3.xe ho).2
theorem CR.part' {F : List Nat} {l : List V} {vs : List Value} (h : CR P I μ w F l vs) (off n : Nat) (ho : (!hasO l || iJ (((flat l).drop off).take n)) = true) : V.RL P I μ w (((flat l).drop off).take n) ((vs.drop off).take n) := by
 rw [Bool.or_eq_true] at ho
 rcases ho with ho | ho
 ·exact ((h.Ep (by simpa using ho)).2.drop off).take n
 ·exact h.part off n ho
theorem Row.range {g : Nat} {e : TypeId} {cs : Array Value} (h : Row w g e cs) (off n len : Nat) : w.rangeAt g off (((cs.toList.take len).drop off).take n) := by
 intro j v hj
 rw [h.cell]
 rw [List.getElem?_take] at hj
 split at hj
 ·rw [List.getElem?_drop, List.getElem?_take] at hj
  split at hj
  ·simpa using hj
  ·cases hj
 ·cases hj
theorem xX {x : V} {vx : Value} (h : V.R P I μ w x vx) : V.R P I μ w x.asPtr vx := by
 cases x <;> first | exact h | (simp only [V.asPtr, V.R, nM] at h ⊢; exact h)
theorem JJ {t : TypeId} {x : V} {vx : Value} (h : evLoad P hp t x = some out) (kU : V.R P I μ w x vx) (pre : cK P I μ w hp out.acc out.hp.length) :
  out.hp = hp /\ out.wr = [] /\ (∀ b ∈ out.acc, b < hp.length) /\ ∃ val, (Instr.loadAt t vx).run P w = .ok val w /\ V.R P I μ w out.v val := by
 have hx := xX kU
 unfold evLoad at h
 split at h
 case h_3 => cases h
 case h_2 jK nH =>
  rw [nH] at hx
  split at h
  case h_2 => cases h
  case h_1 d s hu hs =>
  simp only [V.R] at hx
  obtain ⟨g, off, rfl, ey⟩ := hx
  split at h
  ·rename_i hd
   split at h
   case isFalse => cases h
   case isTrue hl =>
   cases h
   have key : ∃ ch : List Value, w.rangeAt g off ch /\ V.RL P I μ w (jK.take s) ch := by
    rcases ey with rfl | ⟨_, cells, e, fr, hg, eh⟩
    ·exact ⟨[], fun j v hv => by simp at hv, by simp [V.RL]⟩
    ·refine ⟨((cells.toList.drop off).take jK.length).take s, fun j v hv => ?_, xR (eh.take s)⟩
     rw [List.getElem?_take] at hv
     split at hv
     ·rw [List.getElem?_take] at hv
      split at hv
      ·rw [List.getElem?_drop] at hv
       simpa [World.cell?, hg] using hv
      ·cases hv
     ·cases hv
   obtain ⟨ch, SW, jS⟩ := key
   refine ⟨rfl, rfl, by simp, .agg ch.toArray, ?_, by simp only [V.R]; exact ⟨_, rfl, by simpa using jS⟩⟩
   simp only [Instr.loadAt, Instr.sureAddr, Sem.run_bind, Sem.run_pure, Result.andThen_ok]
   refine run_loadVar_mid w g off t ch d SW hu ?_ ?_
   ·cases d <;> first | rfl | exact hd
   ·unfold da at hs; rw [hs, jS.length, hl]
  ·rename_i hd
   split at h
   case h_2 => cases h
   case h_1 c rest =>
   cases h
   rcases ey with h0 | ⟨_, cells, e, fr, hg, eh⟩
   ·cases h0
   ·obtain ⟨u, mG, hr⟩ := eh.get (j := 0) (c := c) rfl
    rw [List.getElem?_take, if_pos (by simp), List.getElem?_drop] at mG
    have lD : w.cell? ⟨g, off, none⟩ = some u := by simpa [World.cell?, hg] using mG
    refine ⟨rfl, rfl, by simp, u, ?_, sj hr⟩
    simp only [Instr.loadAt, Instr.sureAddr, Sem.run_bind, Sem.run_pure, Result.andThen_ok, loadVar, wj hu, hd, Bool.false_eq_true, if_false, run_load, lD]
 case h_1 b off nH =>
 rw [nH] at hx
 split at h
 case h_2 => cases h
 case h_1 blk d s hb hu hs =>
 simp only [V.R] at hx
 obtain ⟨g, hg, rfl⟩ := hx
 have bI : b < hp.length := (List.getElem?_eq_some_iff.1 hb).1
 split at h
 ·rename_i hd
  split at h
  ·rename_i hl
   cases h
   have dK := hl.2
   rw [Bool.and_eq_true] at dK
   obtain ⟨cs, dL, cM, eh⟩ := (pre.holds b (by simp) blk hb).ZA dK.2 hg
   have jS := eh.part' off s dK.1
   refine ⟨rfl, rfl, by simpa using bI, .agg (((cs.toList.take (flat blk.1).length).drop off).take s).toArray, ?_, ?_⟩
   ·simp only [Instr.loadAt, Instr.sureAddr, Sem.run_bind, Sem.run_pure, Result.andThen_ok]
    refine run_loadVar_mid w g off t (((cs.toList.take (flat blk.1).length).drop off).take s) d (dL.range off s _) hu ?_ ?_
    ·cases d <;> first | rfl | exact hd
    ·unfold da at hs; rw [hs, jS.length, hl.1]
   ·simp only [V.R]; exact ⟨_, rfl, by simpa using jS⟩
  ·cases h
 ·rename_i hd
  split at h
  ·rename_i c hc
   split at h
   case h_2 => cases h
   case h_1 qH =>
   cases h
   rw [Bool.or_eq_false_iff] at qH
   obtain ⟨u, mG, hr⟩ := (pre.holds b (by simp) blk hb).cell (by unfold dQ; rw [qH.2]; rfl) hg hc qH.1
   refine ⟨rfl, rfl, by simpa using bI, u, ?_, hr⟩
   simp only [Instr.loadAt, Instr.sureAddr, Sem.run_bind, Sem.run_pure, Result.andThen_ok, loadVar, wj hu, hd, Bool.false_eq_true, if_false, run_load, mG]
  ·cases h
theorem Ar {α : Type} (l vs : List α) (off len : Nat) (h : off + vs.length <= len) (hl : len <= l.length) :
  (l.take off ++ vs ++ l.drop (off + vs.length)).take len = (l.take len).take off ++ vs ++ (l.take len).drop (off + vs.length) := by
 apply List.ext_getElem?
 intro j
 have h1 : (List.take off l).length = off := by simp; omega
 have h2 : (List.take off (List.take len l)).length = off := by simp; omega
 simp only [List.getElem?_take, List.getElem?_append, List.length_append, h1, h2, List.getElem?_drop]
 by_cases hj : j < len
 ·simp only [hj, if_true]
  by_cases ha : j < off + vs.length
  ·simp only [ha, if_true]
  ·simp only [ha, if_false]
   rw [if_pos af]
 ·rw [if_neg hj, if_neg af, if_neg af]
theorem ET {F : List Nat} {l new l' : List V} {off s : Nat} {vs nv : List Value} (h : spliceV l off s new = some l') (hl : CR P I μ w F l vs) (hn : V.RL P I μ w new nv) (hs : new.length = s) (hle : off + s <= (flat l).length) :
  (flat l').length = (flat l).length /\ ∃ F', F'.Sublist F /\ CR P I μ w F' l' (vs.take off ++ nv ++ vs.drop (off + s)) := by
 have gW := u4 hn
 have yU := D1 hn
 unfold spliceV at h
 split at h
 ·rename_i kR
  cases h
  have hf := iU kR
  have hx := hl.la
  rw [hf] at hx hle ⊢
  obtain ⟨F1, F2, rfl, h1, h2⟩ := hx.split off
  obtain ⟨F3, F4, rfl, _, h4⟩ := h2.split s
  rw [List.drop_drop, List.drop_drop] at h4
  have hr := (h1.append (Bd hn)).append h4
  have kQ : ∀ a b : List V, c7 (a ++ b) = (c7 a || c7 b) := by
   intro a b
   induction a with
   | nil => rfl
   | cons x t ih =>
    rw [List.cons_append]
    rcases fu x with ⟨o, c, rfl⟩ | hx
    ·rw [vj, vj]; rfl
    ·rw [nr hx, nr hx]; exact ih
  have ht : ∀ n, c7 (l.take n) = false /\ c7 (l.drop n) = false := by
   intro n
   have := kQ (l.take n) (l.drop n)
   rw [List.take_append_drop, kR] at this
   simpa using this.symm
  have ph : c7 (l.take off ++ new ++ l.drop (off + s)) = false := by rw [kQ, kQ, (ht off).1, (ht (off + s)).2, yU]; rfl
  refine ⟨?_, F1 ++ [] ++ F4, ?_, .vX ph hr⟩
  ·rw [iU ph]
   simp only [List.length_append, List.length_take, List.length_drop, hs]; omega
  ·rw [List.append_nil]
   exact (List.Sublist.refl F1).append (List.sublist_append_right F3 F4)
 ·split at h
  case h_2 => cases h
  case h_1 hrefs =>
  cases h
  have eG := hl.KF hrefs
  obtain ⟨F1, F2, rfl, h1, h2⟩ := eG.split off
  obtain ⟨F3, F4, rfl, _, h4⟩ := h2.split s
  rw [List.drop_drop, List.drop_drop] at h4
  refine ⟨?_, F1 ++ F4, (List.Sublist.refl F1).append (List.sublist_append_right F3 F4), ?_⟩
  ·rw [gF, fK, gW, gF]
   simp only [flat, List.length_append, List.length_take, List.length_drop, hs, List.append_nil]; omega
  ·refine CR.fM.2 ⟨vs.take off, nv ++ vs.drop (off + s), F1, F4, by simp, rfl, h1, ?_⟩
   have := (CR.of hn).append (.rr h4)
   simpa using this
theorem ae4 {t : TypeId} {x y : V} {vx vy : Value} (h : evStore P hp t x y = some out) (kU : V.R P I μ w x vx) (hy : V.R P I μ w y vy) (pre : cK P I μ w hp out.acc out.hp.length) :
  ∃ w' μ', (Instr.storeAt t vx vy).run P w = .ok () w' /\ out.v = .b9 /\ Good P I I μ μ' w w' hp out.hp out.acc out.wr := by
 have hx := xX kU
 unfold evStore at h
 split at h
 case h_2 => cases h
 case h_1 b off nH =>
 rw [nH] at hx
 split at h
 case h_2 => cases h
 case h_1 blk s hb hs =>
 simp only [V.R] at hx
 obtain ⟨g, hg, rfl⟩ := hx
 split at h
 case isFalse => cases h
 case isTrue hc =>
 obtain ⟨hf, hl, h1, hle, hT⟩ := hc
 split at h
 case h_2 => cases h
 case h_1 l' kS =>
 cases h
 obtain ⟨cs, fr, _, hw, dP, ⟨cM, jP⟩, _⟩ := (pre.holds b (by simp) blk hb).real hT hg
 have dL : Row w g blk.2 cs := ⟨fr, hw, dP⟩
 have iD := yy hy hf
 have fa : vy.cells.toList.length = s := by rw [iD.length, hl]
 have cG := rL P g off blk.2 vy.cells.toList 0 cs w dL af (tK iD h1)
 simp only [Nat.add_zero] at cG
 obtain ⟨dK, F', lC, qK⟩ := ET kS jP iD hl hle
 refine ⟨w.setRow g (cs.toList.take off ++ vy.cells.toList ++ cs.toList.drop (off + vy.cells.toList.length)).toArray, μ.dY b F', ?_, rfl, ?_⟩
 ·simp only [Instr.storeAt, Instr.sureAddr, Sem.run_bind, Sem.run_pure, Result.andThen_ok, storeVar, run_sizeOf hs]
  rw [if_neg (by simpa using fa)]
  exact cG
 ·have e := Ar cs.toList vy.cells.toList off (flat blk.1).length af (by simpa using cM)
  have gH : vy.cells.size = s := by simpa using fa
  refine Good.rY (bG := (l', blk.2)) (by simpa using pre) (by simp) hb hg hw rfl ?_ dP lC ?_
  ·simp only [List.size_toArray, List.length_append, List.length_take, List.length_drop, Array.length_toList]; omega
  ·refine ⟨?_, ?_⟩
   ·show (flat l').length <= _
    rw [dK]; simp only [List.size_toArray, List.length_append, List.length_take, List.length_drop, Array.length_toList]; omega
   ·show CR P I μ w F' l' (List.take (flat l').length _)
    rw [dK, e, fa]
    exact qK
theorem Wk {t : TypeId} {x : V} {vx : Value} (hx : V.RL P I μ w (cellsV x) vx.cells.toList) {hp : Hp} {acc : List Nat} (pre : cK P I μ w hp acc (hp ++ [some (cellsV x, t)]).length) :
  (newVar t vx).run P w = .ok ⟨w.heap.size, 0, none⟩ (w.alloc (.cells vx.cells t)) /\
  Good P I I μ (μ.put hp.length w.heap.size []) w (w.alloc (.cells vx.cells t)) hp (hp ++ [some (cellsV x, t)]) acc [] := by
 refine ⟨by simp [newVar, newRow], ?_⟩
 have hl := hx.length
 simp at hl
 refine (Good.new (blk := (cellsV x, t)) (.inl rfl) (by simpa using pre) (by simp; omega) (.inl (Nat.le_refl _)) ?_).1
 rw [List.take_of_length_le (by simp; omega)]
 exact hx
theorem N0 (v : Value) : V.R P I μ w (ofScalarN v) v := by
 unfold ofScalarN
 split
 ·simp [V.R]
 ·exact xU v
theorem Gf : ∀ l : List Value, V.RL P I μ w (l.map ofScalarN) l
 | [] => by simp [V.RL]
 | v :: l => by simp only [List.map_cons, V.RL]; exact ⟨_, _, rfl, N0 v, Gf l⟩
theorem Gg (t : TypeId) (z : Array Value) : V.RL P I μ w (zcells P t z) z.toList := by
 unfold zcells
 split
 ·split
  ·exact Gf _
  ·exact xQ _
 ·exact xQ _
theorem aj6 (t : TypeId) (z : Array Value) : (zcells P t z).length = z.size := by
 unfold zcells
 split
 ·split <;> simp
 ·simp
theorem N7 {t : TypeId} (h : evAlloc P hp t = some out) (pre : cK P I μ w hp out.acc out.hp.length) :
  ∃ val w' μ', (Instr.alloc t true (.tuple #[])).run P w = .ok val w' /\ V.R P I μ' w' out.v val /\ Good P I I μ μ' w w' hp out.hp out.acc out.wr := by
 unfold evAlloc at h
 split at h
 case h_2 => cases h
 case h_1 z hz =>
 cases h
 obtain ⟨i, hi, hz⟩ := Option.bind_eq_some_iff.1 hz
 have hl : (zcells P t z.cells).length = z.cells.size := aj6 _ _
 refine ⟨.pointer (some ⟨w.heap.size, 0, none⟩), w.alloc (.cells z.cells t), μ.put hp.length w.heap.size [], ?_, ?_, ?_⟩
 ·simp [Instr.alloc, zeroValue, typeInfo, hi, hz, newVar, newRow]
 ·simp only [V.R]; exact ⟨_, Mu.ky _ _ _ _, rfl⟩
 ·refine (Good.new (blk := (zcells P t z.cells, t)) (.inl rfl) (by simpa using pre) (by simp only; omega) (.inl (Nat.le_refl _)) ?_).1
  rw [List.take_of_length_le (by simp only [Array.length_toList]; omega)]
  exact Gg _ _
theorem Ov {t : TypeId} {x : V} {vx : Value} (h : x9 hp t x = some out) (hx : V.R P I μ w x vx) (pre : cK P I μ w hp out.acc out.hp.length) :
  ∃ val w' μ', (Instr.box t vx).run P w = .ok val w' /\ V.R P I μ' w' out.v val /\ Good P I I μ μ' w w' hp out.hp out.acc out.wr := by
 unfold x9 at h
 split at h
 case isFalse => cases h
 case isTrue hf =>
 cases h
 obtain ⟨h1, h2⟩ := Wk (t := t) (yy hx hf) pre
 exact ⟨_, _, _, by simp [Instr.box, h1]; rfl, by simp only [V.R]; exact ⟨_, Mu.ky _ _ _ _, rfl⟩, h2⟩
theorem QF (v : Value) (off : Nat) (cells : Array Value) (h : off + v.cells.size <= cells.size) :
  (v.cells.zipIdx.foldl (fun cs (x : Value × Nat) => cs.setIfInBounds (off + x.2) x.1) cells).toList = cells.toList.take off ++ v.cells.toList ++ cells.toList.drop (off + v.cells.size) := by
 rw [<- Array.foldl_toList, Array.toList_zipIdx]
 obtain ⟨h1, h2⟩ := Great.foldl_set off v.cells.toList 0 cells
 apply List.ext_getElem?
 intro k
 have Ig := h2 k
 simp only [Array.length_toList, Nat.add_zero] at Ig
 rw [Array.getElem?_toList, Ig]
 have hl : (List.take off cells.toList).length = off := by simp; omega
 simp only [List.getElem?_append, List.length_append, hl, List.getElem?_take, List.getElem?_drop, Array.length_toList]
 by_cases ha : k < off
 ·rw [if_neg (by omega), if_pos (by omega), if_pos ha]
  simp [ha]
 ·by_cases hb : k < off + v.cells.size
  ·rw [if_pos (by omega), if_pos hb, if_neg ha]
  ·rw [if_neg (by omega), if_neg hb]
   rw [show off + v.cells.size + (k - (off + v.cells.size)) = k by omega]
   simp
inductive p7 (P : Program) (I : Nat -> Prop) (μ : Mu) (w : World) : List (Nat × V) -> List (Nat × Value) -> Prop where
 | nil : p7 P I μ w [] []
 | cons {i : Nat} {x : V} {v : Value} {xs : List (Nat × V)} {vs : List (Nat × Value)} (h : V.R P I μ w x v) (t : p7 P I μ w xs vs) : p7 P I μ w ((i, x) :: xs) ((i, v) :: vs)
theorem HP (place : Nat -> Option (Nat × Nat)) {xs : List (Nat × V)} {vs : List (Nat × Value)} (hp : p7 P I μ w xs vs) : ∀ {cells : List V} {cv : Array Value} {r : List V}, V.RL P I μ w cells cv.toList -> fillV place cells xs = some r ->
  ∃ rv, Instr.fill place cv vs = some rv /\ V.RL P I μ w r rv.toList /\ r.length = cells.length := by
 induction hp with
 | nil => intro cells cv r hc h; cases h; exact ⟨cv, rfl, hc, rfl⟩
 | @cons i x v xs vs hx _ ih =>
  intro cells cv r hc h
  unfold fillV at h
  split at h
  case h_1 => cases h
  case h_2 off size gq =>
  split at h
  case isFalse => cases h
  case isTrue qI =>
  obtain ⟨hf, hl, hle⟩ := qI
  have IA := yy hx hf
  have gH : v.cells.size = size := by have := IA.length; simp at this; omega
  have bQ := hc.length
  simp at bQ
  have R0 := QF v off cv af
  have eh : V.RL P I μ w (cells.take off ++ cellsV x ++ cells.drop (off + size)) (v.cells.zipIdx.foldl (fun cs (x : Value × Nat) => cs.setIfInBounds (off + x.2) x.1) cv).toList := by
   rw [R0, gH]
   exact ((hc.take off).append IA).append (hc.drop (off + size))
  obtain ⟨rv, h1, h2, h3⟩ := ih eh h
  refine ⟨rv, ?_, h2, ?_⟩
  ·unfold Instr.fill
   rw [gq]
   simp only
   rw [if_neg (by simp; omega)]
   exact h1
  ·rw [h3]; simp only [List.length_append, List.length_take, List.length_drop, hl]; omega
theorem Ox {t : TypeId} {ps : List (Nat × V)} {vs : Array (Nat × Value)} (h : evBuild P hp t ps = some out) (Dg : p7 P I μ w ps vs.toList) :
  out.hp = hp /\ out.wr = [] /\ out.acc = [] /\ ∃ val, (Instr.build t vs).run P w = .ok val w /\ V.R P I μ w out.v val := by
 unfold evBuild at h
 split at h
 case h_2 => cases h
 case h_1 it fields hi hu =>
 split at h
 case h_2 => cases h
 case h_1 z rk hz gq =>
 split at h
 case h_2 => cases h
 case h_1 cells hc =>
 cases h
 obtain ⟨rv, h1, h2, _⟩ := HP _ Dg (cv := z.cells) (Gg _ _) hc
 refine ⟨rfl, rfl, rfl, .agg rv, run_build w t vs rv ?_, by simp only [V.R]; exact ⟨_, rfl, h2⟩⟩
 simp only [Program.built, hi, hu, hz, gq]
 rw [<- h1]
 congr 1
 funext i
 simp
theorem xS (z : Array Value) (n : Nat) : V.RL P I μ w (gB (z.toList.map ofScalar) n) ((Array.range n).map (z[· % z.size]!)).toList := by
 refine .of (by simp [gB]) fun j c u hc hu => ?_
 simp only [gB, List.length_map, Array.length_toList] at hc
 rw [List.getElem?_map] at hc
 simp only [Array.toList_map, List.getElem?_map, Array.toList_range] at hu
 cases hj : (List.range n)[j]? with
 | none => rw [hj] at hc; cases hc
 | some k =>
  rw [hj] at hc hu
  simp at hc hu
  subst hc hu
  by_cases hk : k % z.size < z.size
  ·simp [hk, xU]
  ·simp [hk, V.R]
theorem Ow {t : TypeId} {n : Nat} {ps : List (Nat × V)} {vs : Array (Nat × Value)} (h : evBuildSlice P hp t n ps = some out) (Dg : p7 P I μ w ps vs.toList) (pre : cK P I μ w hp out.acc out.hp.length) :
  ∃ val w' μ', (Instr.buildSlice t n vs).run P w = .ok val w' /\ V.R P I μ' w' out.v val /\ Good P I I μ μ' w w' hp out.hp out.acc out.wr := by
 unfold evBuildSlice at h
 split at h
 case h_2 => cases h
 case h_1 elem hu =>
 split at h
 case h_2 => cases h
 case h_1 i hi =>
 split at h
 case h_2 => cases h
 case h_1 z hz =>
 split at h
 case isFalse => cases h
 case isTrue qI =>
 obtain ⟨hle, jR, iZ⟩ := qI
 split at h
 case h_2 => cases h
 case h_1 cells hc =>
 cases h
 have eh : ∃ zz : Array Value, (if n * i.size = 0 then (#[] : Array Value) else z.cells) = zz /\ V.RL P I μ w (gB (z.cells.toList.map ofScalar) (n * i.size)) ((Array.range (n * i.size)).map (zz[· % zz.size]!)).toList := by
  refine ⟨_, rfl, ?_⟩
  split
  ·rename_i h0; rw [h0]; simp [gB, V.RL]
  ·exact xS _ _
 obtain ⟨zz, zj, eh⟩ := eh
 obtain ⟨rv, h1, h2, h3⟩ := HP _ Dg eh hc
 have cM : rv.size = n * i.size := by
  have := h2.length
  simp at this
  rw [this, h3]; simp [gB]
 have bQ : cells.length = n * i.size := by rw [h3]; simp [gB]
 obtain ⟨hg, c8⟩ := Good.new (P := P) (I := I) (μ := μ) (w := w) (hp := hp) (acc := []) (blk := (cells, elem)) (cs := rv) (fr := (0, 0)) (wd := w) (.inl rfl) (by simpa using pre) (by simp; omega) (.inl (Nat.le_refl _)) (by rw [List.take_of_length_le (by simp; omega)]; exact h2)
 refine ⟨.slice (some ⟨w.heap.size, 0, none⟩) n n, _, _, ?_, ?_, hg⟩
 ·by_cases h0 : n * i.size = 0
  ·rw [if_pos h0] at zj
   subst zj
   simp [Instr.buildSlice, run_underlying hu, sizeOf, typeInfo, hi, h0] at h1 ⊢
   simp [h1, newRow]
  ·rw [if_neg h0] at zj
   subst zj
   have hle' : ¬ 16777216 < n * i.size := af
   simp [Instr.buildSlice, run_underlying hu, sizeOf, typeInfo, zeroValue, hi, hz, h0, hle', h1, newRow]
 ·simp only [V.R]
  have hn : n <= n * i.size := Nat.le_mul_of_pos_right _ jR
  exact .inl ⟨_, n, elem, _, i, Mu.ky _ _ _ _, rfl, Nat.le_refl _, by simp only [maxLen]; omega, fun _ => rfl, c8, hi, by simp; omega⟩
end
section
variable {P : Program} {I : Nat -> Prop} {μ μ' : Mu} {w w' : World} {hp : Hp} {out : Out}
theorem VI {t : TypeId} {x y : V} {vx vy : Value} (h : evMakeSlice P hp t x y = some out) (hx : V.R P I μ w x vx) (hy : V.R P I μ w y vy) (pre : cK P I μ w hp out.acc out.hp.length) :
  ∃ val w' μ', (Instr.makeSlice t vx vy).run P w = .ok val w' /\ V.R P I μ' w' out.v val /\ Good P I I μ μ' w w' hp out.hp out.acc out.wr := by
 unfold evMakeSlice at h
 split at h
 case h_2 => cases h
 case h_1 kl l kc c =>
 split at h
 case h_2 => cases h
 case h_1 elem hu =>
 split at h
 case h_2 => cases h
 case h_1 i hi =>
 split at h
 case h_2 => cases h
 case h_1 z hz =>
 split at h
 case isFalse => cases h
 case isTrue qI =>
 obtain ⟨h0, Si, hc, hb, jR, iZ⟩ := qI
 cases h
 simp only [V.R] at hx hy
 subst hx hy
 have Rz : (i.bytes : Int) * c <= 281474976710656 := by
  have h1 : (i.bytes : Int) * c <= (1048576 : Int) * c := Int.mul_le_mul_of_nonneg_right af af
  omega
 have hr := run_make (P := P) w t elem i z hu hi hz kl kc l c h0 Si Rz af
 obtain ⟨hg, c8⟩ := Good.zt (P := P) (I := I) (μ := μ) (w := w) (hp := hp) (acc := []) (blk := ([.aJ (gB (z.cells.toList.map ofScalar) (c.toNat * i.size))], elem)) (cs := madeCells z.cells (c.toNat * i.size)) (fr := (0, 0)) (wd := w) (.inl rfl)
  (by simpa using pre) (.inl (Nat.le_refl _)) (.aJ (by simp [gB, madeCells]) (by
   rw [List.take_of_length_le (by simp [gB, madeCells])]
   exact xS _ _))
 refine ⟨_, _, _, hr, ?_, hg⟩
 simp only [V.R]
 refine .inl ⟨_, c.toNat, elem, _, i, Mu.ky _ _ _ _, rfl, af, by simp only [maxLen]; omega, fun hf => ?_, c8, hi, by simp [madeCells]⟩
 have := eq_of_beq hf; omega
theorem Bb {o : Bool} : OS P I w o [] [] [] := by
 cases o
 ·exact ⟨rfl, by simp [V.RL]⟩
 ·show V.OL P I w [] [] []
  exact kG.2 ⟨rfl, rfl⟩
theorem D2 : ∀ {l : List V} {F : List Nat} {vs : List Value}, OXL P I μ w F l vs -> c7 l = false
 | [], _, _, _ => rfl
 | x :: t, _, _, h => by
  obtain ⟨u, us, F1, F2, _, _, h1, h2⟩ := h
  have ih := D2 h2
  rcases fu x with ⟨o, c, rfl⟩ | hx
  ·cases o <;> (unfold OX at h1; simp [mkS, V.isO, V.R] at h1)
  ·rw [nr hx]; exact ih
theorem Ha {F : List Nat} {l : List V} {vs : List Value} {off k : Nat} (h : CR P I μ w F l vs) (hk : (((flat l).drop off).take k).length = k) : (∃ F', F'.Sublist F /\ CR P I μ w F' (fl l off k) ((vs.drop off).take k)) /\ (flat (fl l off k)).length = k := by
 unfold fl
 split
 ·rename_i hc
  obtain ⟨rfl, rfl⟩ := hc
  refine ⟨⟨F, .refl _, ?_⟩, rfl⟩
  rw [List.drop_zero, List.take_of_length_le (Nat.le_of_eq h.length)]
  exact h
 ·obtain ⟨F1, F2, rfl, _, h2⟩ := h.la.split off
  obtain ⟨F3, F4, rfl, h3, _⟩ := h2.split k
  have hs := D2 h3
  refine ⟨⟨F3, ?_, .vX hs h3⟩, by rw [iU hs]; exact hk⟩
  exact (List.sublist_append_left F3 F4).trans (List.sublist_append_right F1 _)
theorem Ec {l : List V} (h : l.all V.one = true) : iJ l = true := by
 unfold iJ
 rw [List.all_eq_true] at h ⊢
 intro c hc
 have := h c hc
 cases c <;> first | rfl | simp [V.one] at this
theorem zZ {size : Nat} {x : V} {vx : Value} {bs : List Nat} {m : Nat} {news : List V} (h : srcV hp size x = some (bs, m, news)) (hx : V.R P I μ w x vx) (hh : ∀ b ∈ bs, ∀ blk, hp[b]? = some (some blk) -> Holds P I μ w b blk) :
  ∃ a c nv, vx = .slice a m c /\ (flat news).length = m * size /\ CR P I μ w [] news nv /\ (∀ u ∈ nv, u.oneCell' = true) /\ se w a nv /\ (∀ b ∈ bs, b < hp.length) /\ iJ (flat news) = true := by
 unfold srcV at h
 split at h
 ·rename_i b off m' full
  split at h
  case h_2 => cases h
  case h_1 blk hb =>
  split at h
  case isFalse => cases h
  case isTrue hc =>
  cases h
  have bI : ∀ b' ∈ [b], b' < hp.length := by simpa using (List.getElem?_eq_some_iff.1 hb).1
  have gG : iJ (flat (fl blk.1 off (m * size))) = true := by
   have ko := Ec hc.2
   unfold fl
   split
   ·rename_i h0
    obtain ⟨rfl, h0⟩ := h0
    rwa [List.drop_zero, List.take_of_length_le af] at ko
   ·have hf : ∀ l : List V, l.all V.one = true -> flat l = l := by
     intro l hl
     refine iU ?_
     induction l with
     | nil => rfl
     | cons x t ih =>
      rw [List.all_cons, Bool.and_eq_true] at hl
      rcases fu x with ⟨o, c, rfl⟩ | hx
      ·cases o <;> simp [mkS, V.one] at hl
      ·have := ih hl.2
       rw [nr hx]; exact this
    rw [hf _ hc.2]; exact ko
  simp only [V.R] at hx
  rcases hx with ⟨g, cap, e, N, i, hg, rfl, _, _, _, c8, _⟩ | ⟨rfl, rfl, a', rfl, cY⟩
  ·obtain ⟨cs, dL, cM, eh⟩ := (hh b (by simp) blk hb).Ma hg c8
   have ko := Ec hc.2
   have qP := eh.part off (m * size) ko
   obtain ⟨⟨F', _, jS⟩, hlen⟩ := Ha (off := off) eh hc.1
   have hF : F' = [] := by
    have vQ := jS.la
    unfold fl at vQ
    split at vQ
    ·rename_i h0
     obtain ⟨rfl, h0⟩ := h0
     rw [List.drop_zero, List.take_of_length_le af] at ko
     exact (vQ.xe ko).1
    ·rw [u4 qP] at vQ
     exact (vQ.xe ko).1
   subst hF
   refine ⟨_, cap, _, rfl, hlen, jS, tK qP hc.2, .inr ⟨_, rfl, dL.lt, fun j u hu => ?_⟩, bI, gG⟩
   rw [Addr.add_mid]
   exact dL.range off _ _ j u hu
  ·refine ⟨a', 0, [], rfl, ?_, ?_, by simp, .inl rfl, bI, gG⟩
   ·have : (((flat blk.1).drop 0).take (0 * size)) = [] := by simp
    simp only [Nat.zero_mul, fl]
    split
    ·rename_i h0; exact h0.2
    ·simp [flat]
   ·simp only [Nat.zero_mul, fl]
    split
    ·rename_i h0
     have yL := hh b (by simp) blk hb
     have iD : flat blk.1 = [] := List.eq_nil_of_length_eq_zero h0.2
     have : ∀ l : List V, flat l = [] -> CR P I μ w [] l [] := by
      intro l
      induction l with
      | nil => intro _; exact CR.fp.2 ⟨rfl, rfl⟩
      | cons x t ih =>
       intro hl
       rcases fu x with ⟨o, c, rfl⟩ | hx
       ·rw [gF, List.append_eq_nil_iff] at hl
        rw [hl.1]
        exact CR.fM.2 ⟨[], [], [], [], rfl, rfl, Bb, ih hl.2⟩
       ·rw [eW hx] at hl; cases hl
     exact this _ iD
    ·simp only [List.take_zero]; exact CR.fp.2 ⟨rfl, rfl⟩
 ·rename_i m' full cs
  split at h
  case isFalse => cases h
  case isTrue hc =>
  cases h
  simp only [V.R] at hx
  obtain ⟨a, cap, rfl, nA, _, tA, ey⟩ := hx
  have key : ∃ nv : List Value, V.RL P I bY w (cs.take (m * size)) nv /\ se w a nv := by
   rcases ey with rfl | rfl | ⟨g, off, rfl, _, cells, e, fr, hg, eh⟩
   ·exact ⟨[], by simp [V.RL], .inl rfl⟩
   ·exact ⟨[], by simp [V.RL], .inl rfl⟩
   ·refine ⟨((cells.toList.drop off).take cs.length).take (m * size), eh.take _, .inr ⟨_, rfl, (Array.getElem?_eq_some_iff.1 hg).1, fun j v hv => ?_⟩⟩
    rw [Addr.add_mid]
    rw [List.getElem?_take] at hv
    split at hv
    ·rw [List.getElem?_take] at hv
     split at hv
     ·rw [List.getElem?_drop] at hv
      simpa [World.cell?, hg] using hv
     ·cases hv
    ·cases hv
  obtain ⟨nv, h1, h2⟩ := key
  exact ⟨_, cap, nv, rfl, by simpa [flat] using hc.1, .zU h1, tK h1 hc.2, h2, by simp, by simpa [flat] using Ec hc.2⟩
 ·cases h
theorem DM {a : Option Addr} {nv : List Value} (h : se w a nv) (bp : nv ≠ []) : ∃ ad, a = some ad /\ ∀ j u, nv[j]? = some u -> w.cell? (ad.add j) = some u := by
 rcases h with h | ⟨ad, h1, _, h2⟩
 ·exact absurd h bp
 ·exact ⟨ad, h1, h2⟩
theorem sq {t ty elem : TypeId} {i : TypeInfo} (hu : P.underlying t = some (.slice elem)) (hi : P.info? elem = some i) (b : Option Addr) (n cap : Nat) (hn : n <= cap) (a : Option Addr) (c : Nat) :
  (Builtin.append_ #[t, t] ty #[.slice b n cap, .slice a 0 c]).run P w = .ok (.slice b n cap) w := by
 cases b <;> cases a <;> simp [Builtin.append_, run_underlying hu, sizeOf, typeInfo, hi, Builtin.lenOf, Builtin.firstCells, loadCells, loadCellsFrom, hn, storeCells]
theorem Bq {t ty elem : TypeId} {i : TypeInfo} {z : Value} (hu : P.underlying t = some (.slice elem)) (hi : P.info? elem = some i) (hz : i.zero = some z) (iZ : z.cells.size = i.size) (jR : 0 < i.size)
  {b : Option Addr} {n cap : Nat} {F : List Nat} {olds news : List V} {ov nv : List Value} (yW : (flat olds).length = n * i.size) (ho : CR P I μ w F olds ov) (hb : b = none /\ n = 0 /\ cap = 0 \/ ∃ ad, b = some ad /\ ∀ j u, ov[j]? = some u -> w.cell? (ad.add j) = some u)
  {a : Option Addr} {m c : Nat} (hm : 0 < m) (vI : (flat news).length = m * i.size) (hn : CR P I μ w [] news nv) (hl : se w a nv) (CO : cap < n + m) (qB : n + m <= maxLen) (qF : (n + m) * i.bytes <= 140737488355328) :
  ∃ eQ row, (Builtin.append_ #[t, t] ty #[.slice b n cap, .slice a m c]).run P w = .ok (.slice (some ⟨w.heap.size, 0, none⟩) (n + m) eQ) (w.drew.alloc (.cells row elem)) /\ gC P I μ w F (olds ++ news) row /\ row.size = eQ * i.size /\ n + m <= eQ /\ eQ <= maxLen := by
 have iX := hn.length
 have tB := ho.length
 have bp : nv ≠ [] := by
  rintro rfl
  have : 0 < m * i.size := Nat.mul_pos hm jR
  simp at iX; omega
 obtain ⟨ad, rfl, ti⟩ := DM hl bp
 have ak6 : n + m <= 9223372036854775807 := by simp only [maxLen] at qB; omega
 have fin : ∀ eQ, n + m <= eQ -> ∀ row : Array Value, row = ov.toArray ++ nv.toArray ++ Builtin.zeroCells z.cells (eQ - (n + m)) ->
   gC P I μ w F (olds ++ news) row /\ row.size = eQ * i.size := by
  intro eQ gm row dL
  have kq : row.size = eQ * i.size := by
   rw [dL]
   simp only [Array.size_append, List.size_toArray, size_zeroCells, iZ, tB, iX, yW, vI]
   rw [<- Nat.add_mul, <- Nat.add_mul]; congr 1; omega
  have hlen : (flat (olds ++ news)).length = (n + m) * i.size := by rw [fK, List.length_append, yW, vI, Nat.add_mul]
  have S5 : row.toList.take (flat (olds ++ news)).length = ov ++ nv := by
   rw [dL]
   have e : (ov.toArray ++ nv.toArray ++ Builtin.zeroCells z.cells (eQ - (n + m))).toList = (ov ++ nv) ++ (Builtin.zeroCells z.cells (eQ - (n + m))).toList := by simp
   have e2 : (flat (olds ++ news)).length = (ov ++ nv).length := by simp only [fK, List.length_append, tB, iX]
   rw [e, e2]; exact List.take_left
  have Sj : (n + m) * i.size <= eQ * i.size := Nat.mul_le_mul_right _ gm
  refine ⟨⟨by rw [hlen, kq]; exact Sj, ?_⟩, kq⟩
  rw [S5]
  have := ho.append hn
  rwa [List.append_nil] at this
 rcases hb with ⟨rfl, rfl, rfl⟩ | ⟨bd, rfl, hb⟩
 ·have SL : ov = [] := List.eq_nil_of_length_eq_zero (by rw [tB, yW]; simp)
  subst SL
  have hr := run_append_nil (P := P) w t ty elem i z hu hi hz ad m c nv (by rw [iX, vI]) ti hm af (by simp only [Nat.zero_add] at qF; omega)
  have gm : 0 + m <= grownCap w m 0 elem := by have := grownCap_ge w m 0 elem; omega
  obtain ⟨h1, h2⟩ := fin (grownCap w m 0 elem) gm _ rfl
  refine ⟨grownCap w m 0 elem, _, ?_, h1, h2, gm, grownCap_le_maxLen w m 0 elem af⟩
  rw [hr]; simp
 ·have hr := run_append_grow (P := P) w t ty elem i z hu hi hz bd n cap ov (by rw [tB, yW]) hb ad m c nv (by rw [iX, vI]) ti CO af (growslice_fits af qF)
  obtain ⟨h1, h2⟩ := fin (grownCap w (n + m) cap elem) (grownCap_ge w (n + m) cap elem) _ rfl
  exact ⟨_, _, hr, h1, h2, grownCap_ge w (n + m) cap elem, grownCap_le_maxLen w (n + m) cap elem qB⟩
theorem N9 {t t' ty : TypeId} {x y : V} {vx vy : Value} (h : evAppend P hp t t' x y = some out) (hx : V.R P I μ w x vx) (hy : V.R P I μ w y vy) (pre : cK P I μ w hp out.acc out.hp.length) :
  ∃ val w' μ', (Builtin.append_ #[t, t'] ty #[vx, vy]).run P w = .ok val w' /\ V.R P I μ' w' out.v val /\ Good P I I μ μ' w w' hp out.hp out.acc out.wr := by
 unfold evAppend at h
 split at h
 case h_2 => cases h
 case h_1 elem hu =>
 split at h
 case h_2 => cases h
 case h_1 i hi =>
 split at h
 case h_2 => cases h
 case h_1 z hz eA =>
 have Ta : t = t' := eq_of_beq eA
 subst Ta
 split at h
 case isFalse => cases h
 case isTrue qI =>
 obtain ⟨jR, iZ⟩ := qI
 split at h
 case h_2 => cases h
 case h_1 bs m news lL =>
 have RS : ∀ row : Array Value, cy I w (w.drew.alloc (.cells row elem)) (fun _ => False) := fun row => (cy.drew w _).trans (.alloc _ _ _) (.refl _) (fun _ _ h => h)
 have tz : ∀ row : Array Value, (w.drew.alloc (.cells row elem)).heap[w.heap.size]? = some (.cells row elem (0, 0)) := fun row => heap_alloc_new w.drew _
 split at h
 ·-- XB an own slice
  rename_i b off n full
  split at h
  case h_2 => cases h
  case h_1 blk hb =>
  split at h
  case isFalse => cases h
  case isTrue hc =>
  obtain ⟨hl, qB, qF, he, jq⟩ := hc
  subst jq
  cases h
  simp only [V.R] at hx
  obtain ⟨a, c, nv, rfl, h1, h2, ko, h3, _⟩ := zZ lL hy fun b' bX => pre.holds b' (by simp [bX])
  have tC : cK P I μ w hp (b :: bs) (hp.length + 1) := by simpa using pre
  have iX := h2.length
  have C8 : (n + m) * i.size = n * i.size + m * i.size := Nat.add_mul _ _ _
  have I4 : ∀ (F : List Nat) (eQ : Nat) (row : Array Value), F.Sublist (μ.ft b) -> gC P I μ w F (fl blk.1 0 (n * i.size) ++ news) row -> row.size = eQ * i.size -> n + m <= eQ -> eQ <= maxLen ->
    V.R P I (μ.put hp.length w.heap.size F) (w.drew.alloc (.cells row elem)) (.sl hp.length 0 (n + m) false) (.slice (some ⟨w.heap.size, 0, none⟩) (n + m) eQ) /\
    Good P I I μ (μ.put hp.length w.heap.size F) w (w.drew.alloc (.cells row elem)) hp (hp.set b none ++ [some (fl blk.1 0 (n * i.size) ++ news, elem)]) (b :: bs) [b] := by
   intro F eQ row hF qJ kq gm cB
   refine ⟨?_, ?_⟩
   ·simp only [V.R]
    exact .inl ⟨_, eQ, elem, row.size, i, Mu.ky _ _ _ _, rfl, gm, cB, by simp, mS (tz row), hi, by omega⟩
   ·exact Good.JD (bG := (fl blk.1 0 (n * i.size) ++ news, elem)) tC (by simp) hb (RS row) (fun k hk => hk.elim) (fun k _ h => h) hF (.inl ⟨Nat.le_refl _, by simp⟩) (fun hi => Nat.lt_irrefl _ (pre.dj _ hi)) (tz row) (.inl (Nat.le_refl _)) qJ
  rcases hx with ⟨g, cap, e', N, i', hg, rfl, nB, cB, pb, c8, iF, hN⟩ | ⟨_, rfl, a', rfl, cY⟩
  ·obtain ⟨cs, fr, tp, hw, dP, ⟨cM, jP⟩, eg, _⟩ := (pre.holds b (by simp) blk hb).kZ hg c8
   have dL : Row w g blk.2 cs := ⟨fr, hw, dP⟩
   obtain ⟨⟨F', lC, yI⟩, Iw⟩ := Ha (off := 0) jP hl
   rw [List.drop_zero] at yI
   have pg := mS hw
   rw [c8] at pg
   cases pg
   rw [he, hi] at iF
   cases iF
   have SD : n * i.size <= (flat blk.1).length := by simp at hl; omega
   have hlen : (flat (fl blk.1 0 (n * i.size) ++ news)).length = (n + m) * i.size := by rw [fK, List.length_append, Iw, h1, C8]
   by_cases Dk : n + m <= cap
   ·have hmul : (n + m) * i.size <= cap * i.size := Nat.mul_le_mul_right _ Dk
    have yH : (cs.toList.take (n * i.size) ++ nv ++ cs.toList.drop (n * i.size + nv.length)).toArray.size = cs.size := by
     simp only [List.size_toArray, List.length_append, List.length_take, List.length_drop, Array.length_toList]; omega
    have hr : (Builtin.append_ #[t, t] ty #[.slice (some ⟨g, 0, none⟩) n cap, .slice a m c]).run P w =
      .ok (.slice (some ⟨g, 0, none⟩) (n + m) cap) (w.setRow g (cs.toList.take (n * i.size) ++ nv ++ cs.toList.drop (n * i.size + nv.length)).toArray) := by
     cases m with
     | zero =>
      have kU : nv = [] := List.eq_nil_of_length_eq_zero (by rw [iX, h1]; simp)
      subst kU
      rw [sq hu hi _ n cap nB a c]
      simp only [List.append_nil, List.length_nil, Nat.add_zero, List.take_append_drop, Array.toArray_toList]
      rw [setRow_self w g cs _ fr hw]
     | succ m =>
      have bp : nv ≠ [] := by
       rintro rfl
       have : 0 < (m + 1) * i.size := Nat.mul_pos (Nat.succ_pos m) jR
       simp at iX; omega
      obtain ⟨ad, rfl, ti⟩ := DM h3 bp
      have hf := run_firstCells_some (P := P) w i.size (m + 1) ad (m + 1) c nv (by rw [iX, h1]) ti
      have cG := rL P g (n * i.size) blk.2 nv 0 cs w dL (by omega) ko
      simp only [Nat.add_zero] at cG
      simp [Builtin.append_, run_underlying hu, sizeOf, typeInfo, hi, Builtin.lenOf, Dk, hf, Addr.add_lit, cG]
    have tc : cy I w (w.setRow g (cs.toList.take (n * i.size) ++ nv ++ cs.toList.drop (n * i.size + nv.length)).toArray) (fun k => k = g) := .setRow w g cs _ _ fr hw yH tp
    have nw : ∀ k ∈ F', ¬ k = g := by
     rintro k hk rfl
     rw [List.nodup_cons] at eg
     exact eg.1 (lC.subset hk)
    refine ⟨_, _, μ.put hp.length g F', hr, ?_, Good.JD (bG := (fl blk.1 0 (n * i.size) ++ news, elem)) tC (by simp) hb tc (fun k hk => by rw [hk]; exact .inl hg) nw lC (.inr hg) tp (by rw [<- he]; exact setRow_heap w g cs _ _ fr hw) (by rw [yH]; exact dP) ⟨?_, ?_⟩⟩
    ·simp only [V.R]
     refine .inl ⟨g, cap, elem, cs.size, i, Mu.ky _ _ _ _, rfl, Dk, cB, by simp, ?_, hi, by omega⟩
     rw [mS (setRow_heap w g cs _ _ fr hw), yH, he]
    ·show (flat (fl blk.1 0 (n * i.size) ++ news)).length <= _
     rw [yH, hlen]; omega
    ·show CR P I μ w F' (fl blk.1 0 (n * i.size) ++ news) (List.take (flat (fl blk.1 0 (n * i.size) ++ news)).length _)
     have e1 : (List.take (n * i.size) cs.toList ++ nv).length = (flat (fl blk.1 0 (n * i.size) ++ news)).length := by
      rw [hlen, List.length_append, List.length_take, iX, h1, C8, Array.length_toList]; congr 1; omega
     rw [<- e1]
     simp only [List.append_assoc]
     rw [<- List.append_assoc, List.take_left' rfl]
     rw [List.take_take, Nat.min_eq_left SD] at yI
     have := yI.append h2
     rwa [List.append_nil] at this
   ·have hm : 0 < m := by omega
    obtain ⟨eQ, row, hr, qJ, kq, gm, vn⟩ := Bq (P := P) (ty := ty) hu hi hz iZ jR Iw yI (.inr ⟨_, rfl, fun j u hu => by rw [Addr.add_mid]; exact dL.range 0 _ _ j u (by simpa using hu)⟩) (m := m) (c := c) hm h1 h2 h3 (show cap < n + m by omega) qB qF
    obtain ⟨k1, k2⟩ := I4 F' eQ row lC qJ kq gm vn
    exact ⟨_, _, _, hr, k1, k2⟩
  ·-- XB one Fy is nil
   have Iv : CR P I μ w [] (fl blk.1 0 (0 * i.size)) [] /\ (flat (fl blk.1 0 (0 * i.size))).length = 0 * i.size := by
    have vH : ∀ l : List V, flat l = [] -> CR P I μ w [] l [] := by
     intro l
     induction l with
     | nil => intro _; exact CR.fp.2 ⟨rfl, rfl⟩
     | cons x t ih =>
      intro hl
      rcases fu x with ⟨o, c, rfl⟩ | hx
      ·rw [gF, List.append_eq_nil_iff] at hl
       rw [hl.1]
       exact CR.fM.2 ⟨[], [], [], [], rfl, rfl, Bb, ih hl.2⟩
      ·rw [eW hx] at hl; cases hl
    unfold fl
    split
    ·rename_i h0
     exact ⟨vH _ (List.eq_nil_of_length_eq_zero (by simpa using h0.2)), h0.2⟩
    ·simp only [Nat.zero_mul, List.take_zero]
     exact ⟨CR.fp.2 ⟨rfl, rfl⟩, rfl⟩
   cases m with
   | zero =>
    have kU : nv = [] := List.eq_nil_of_length_eq_zero (by rw [iX, h1]; simp)
    subst kU
    refine ⟨_, w, μ.put hp.length 0 [] |> fun _ => ⟨μ.nm, fun c => if c = hp.length then [] else μ.ft c⟩, sq hu hi a' 0 0 (Nat.le_refl _) a c, ?_, ?_⟩
    ·simp only [V.R]; exact .inr ⟨bn, bn, a', rfl, cY⟩
    ·have bI : b < hp.length := (List.getElem?_eq_some_iff.1 hb).1
     have jo := tC.fresh hp.length (Nat.le_refl _) (by omega)
     have fo : ∀ c k, c ≠ hp.length -> (Mu.own ⟨μ.nm, fun c => if c = hp.length then [] else μ.ft c⟩ c k) -> μ.own c k := by
      intro c k hc hk
      rcases hk with hk | hk
      ·exact .inl hk
      ·simp only [hc, if_false] at hk; exact .inr hk
     have gG : ∀ k, ¬ Mu.own ⟨μ.nm, fun c => if c = hp.length then [] else μ.ft c⟩ hp.length k := by
      intro k hk
      rcases hk with hk | hk
      ·have dD : μ hp.length = some k := hk
       rw [jo] at dD; cases dD
      ·simp at hk
     refine ⟨.refl _, fun _ h => .inl h, .refl _ _, fun _ _ h => h, fun b g h => .inl h, fun c _ hn => ?_, fun c hc eL h => ?_, fun c hc eL h k hk => ?_, fun c d b1 b2 k bp hc hd h1 h2 k1 k2 => ?_⟩
     ·show (if c = hp.length then [] else μ.ft c) = μ.ft c
      rw [if_neg (by rintro rfl; exact hn ⟨Nat.le_refl _, by simp⟩)]
     ·rcases kJ h with ⟨hl, h⟩ | ⟨hl, rfl⟩
      ·obtain ⟨ee, h⟩ := tZ h
       simp only [List.length_set] at hl
       have cF : c ∈ b :: bs := by rcases hc with hc | hc; exact hc; omega
       exact (tC.holds c cF eL h).keep (.refl w (fun _ => False)) (.refl _) (fun _ _ h => h) (fun h => h) (by show (if c = hp.length then [] else μ.ft c) = μ.ft c; rw [if_neg (by omega)]) (fun _ _ h => h) (fun k hk => (tC.holds c cF eL h).ku hk)
      ·simp only [List.length_set] at hl
       subst hl
       exact .inr (.inl ⟨jo, by simp⟩)
     ·rcases kJ h with ⟨hl, h⟩ | ⟨hl, rfl⟩
      ·obtain ⟨ee, h⟩ := tZ h
       simp only [List.length_set] at hl
       rcases hc with hc | hc
       ·omega
       ·exact absurd (by simpa using hc) ee
      ·simp only [List.length_set] at hl
       subst hl
       exact (gG k hk).elim
     ·rcases kJ h1 with ⟨hl, h1⟩ | ⟨hl, _⟩
      ·obtain ⟨ee, h1⟩ := tZ h1
       simp only [List.length_set] at hl
       rcases kJ h2 with ⟨gX, h2⟩ | ⟨gX, _⟩
       ·obtain ⟨oY, h2⟩ := tZ h2
        simp only [List.length_set] at gX
        have cF : c ∈ b :: bs := by rcases hc with hc | hc; exact hc; omega
        have lE : d ∈ b :: bs := by rcases hd with hd | hd; exact hd; omega
        exact tC.inj c cF d lE _ _ k bp h1 h2 (fo c k (by omega) k1) (fo d k (by omega) k2)
       ·simp only [List.length_set] at gX
        subst gX; exact (gG k k2).elim
      ·simp only [List.length_set] at hl
       subst hl; exact (gG k k1).elim
   | succ m =>
    obtain ⟨eQ, row, hr, qJ, kq, gm, vn⟩ := Bq (P := P) (ty := ty) (b := a') (cap := 0) hu hi hz iZ jR Iv.2 Iv.1 (by rcases cY with h | ⟨g, off, h⟩; exact .inl ⟨h, rfl, rfl⟩; exact .inr ⟨_, h, by simp⟩) (m := m + 1) (c := c) (by omega) h1 h2 h3 (by omega) qB qF
    obtain ⟨k1, k2⟩ := I4 [] eQ row (List.nil_sublist _) qJ kq gm vn
    exact ⟨_, _, _, hr, k1, k2⟩
 ·rename_i n full jK
  split at h
  ·cases h
   simp only [V.R] at hx
   have ju := hx
   obtain ⟨a0, cap, rfl, hn, _⟩ := hx
   obtain ⟨a, c, nv, rfl, _⟩ := zZ lL hy pre.holds
   exact ⟨_, _, _, sq hu hi a0 n cap hn a c, by simp only [V.R]; exact ju, Good.same hp pre⟩
  ·split at h
   case isFalse => cases h
   case isTrue hc =>
   obtain ⟨hf, hl, qB, qF⟩ := hc
   subst hf
   cases h
   simp only [V.R] at hx
   obtain ⟨a0, cap, rfl, _, pb, tA, ey⟩ := hx
   obtain rfl : cap = n := by simpa using pb
   obtain ⟨a, c, nv, rfl, h1, h2, _, h3, _⟩ := zZ lL hy pre.holds
   have key : ∃ ov : List Value, V.RL P I bY w (jK.take (cap * i.size)) ov /\ (a0 = none /\ cap = 0 /\ cap = 0 \/ ∃ ad, a0 = some ad /\ ∀ j u, ov[j]? = some u -> w.cell? (ad.add j) = some u) := by
    have nilC : jK.take (cap * i.size) = [] -> ∃ ov : List Value, V.RL P I bY w (jK.take (cap * i.size)) ov /\ (a0 = none /\ cap = 0 /\ cap = 0 \/ ∃ ad, a0 = some ad /\ ∀ j u, ov[j]? = some u -> w.cell? (ad.add j) = some u) := by
     intro h0
     refine ⟨[], by rw [h0]; simp [V.RL], ?_⟩
     rcases tA with ⟨rfl, h0⟩ | ⟨g, off, rfl⟩
     ·exact .inl ⟨rfl, h0, h0⟩
     ·exact .inr ⟨_, rfl, by simp⟩
    rcases ey with rfl | h0 | ⟨g, off, rfl, _, cells, e, fr, hg, eh⟩
    ·exact nilC (by simp)
    ·exact nilC (by rw [h0]; simp)
    ·refine ⟨((cells.toList.drop off).take jK.length).take (cap * i.size), eh.take _, .inr ⟨_, rfl, fun j v hv => ?_⟩⟩
     rw [Addr.add_mid]
     rw [List.getElem?_take] at hv
     split at hv
     ·rw [List.getElem?_take] at hv
      split at hv
      ·rw [List.getElem?_drop] at hv
       simpa [World.cell?, hg] using hv
      ·cases hv
     ·cases hv
   obtain ⟨ov, ho, tB⟩ := key
   obtain ⟨eQ, row, hr, qJ, kq, gm, vn⟩ := Bq (P := P) (ty := ty) (μ := μ) (olds := [.aJ (jK.take (cap * i.size))]) hu hi hz iZ jR (by simpa [flat] using hl) (.zU ho) tB (Nat.succ_pos _) h1 h2 h3 (by omega) qB qF
   obtain ⟨hg, c8⟩ := Good.zt (P := P) (I := I) (μ := μ) (w := w) (hp := hp) (blk := ([.aJ (jK.take (cap * i.size))] ++ news, elem)) (cs := row) (fr := (0, 0)) (wd := w.drew) (.inr rfl) (by simpa using pre) (.inl (Nat.le_refl _)) qJ
   refine ⟨_, _, _, hr, ?_, hg⟩
   simp only [V.R]
   exact .inl ⟨_, eQ, elem, row.size, i, Mu.ky _ _ _ _, rfl, gm, vn, by simp, c8, hi, by omega⟩
 ·cases h
end
section
variable {P : Program} {I : Nat -> Prop} {μ μ' : Mu} {w w' : World} {hp : Hp} {out : Out}
theorem Uo {t ty : TypeId} {x : V} {vx : Value} (h : evLen P hp t x = some out) (hx : V.R P I μ w x vx) :
  out.hp = hp /\ out.wr = [] /\ out.acc = [] /\ ∃ val, (Builtin.len_ #[t] ty #[vx]).run P w = .ok val w /\ V.R P I μ w out.v val := by
 unfold evLen at h
 split at h
 case h_4 => cases h
 all_goals (split at h <;> cases h) <;> rename_i hu <;> simp only [V.R] at hx
 ·subst hx
  refine ⟨rfl, rfl, rfl, goInt _, by simp [Builtin.len_, run_underlying hu]; rfl, by simp [V.R, goInt, ByteArray.size]⟩
 ·rcases hx with ⟨g, cap, e, N, i, _, rfl, _⟩ | ⟨_, rfl, a', rfl, _⟩
  ·refine ⟨rfl, rfl, rfl, _, by simp [Builtin.len_, run_underlying hu]; rfl, by simp [V.R, goInt]⟩
  ·refine ⟨rfl, rfl, rfl, _, by simp [Builtin.len_, run_underlying hu]; rfl, by simp [V.R, goInt]⟩
 ·obtain ⟨a, cap, rfl, _⟩ := hx
  refine ⟨rfl, rfl, rfl, _, by simp [Builtin.len_, run_underlying hu]; rfl, by simp [V.R, goInt]⟩
theorem HS {d : Nat} {f : Field} {x y : V} {vx vy : Value} {r : Bool} (h : flatEq P f x y = some r) (hx : V.R P I μ w x vx) (hy : V.R P I μ w y vy) :
  (Op.equalIn (d + 1) f.type vx vy).run P w = .ok r w /\ ∃ dd, P.underlying f.type = some dd /\ jA dd = false := by
 unfold flatEq at h
 split at h
 case h_4 => cases h
 all_goals rename_i hu; simp only [V.R] at hx hy
 ·subst hx hy
  split at h
  ·rename_i hk; subst hk; cases h
   exact ⟨run_equalIn_int w d _ _ _ _ _ hu, _, hu, rfl⟩
  ·cases h
 ·subst hx hy; cases h; exact ⟨run_equalIn_bool w d _ _ _ hu, _, hu, rfl⟩
 ·subst hx hy; cases h
  refine ⟨?_, _, hu, rfl⟩
  rw [run_equalIn_string w d _ _ _ hu]; simp
theorem Cs {d : Nat} {xs ys : List V} {vx vy : Array Value} (hx : V.RL P I μ w xs vx.toList) (hy : V.RL P I μ w ys vy.toList) : ∀ {fs : List Field} {r : Bool}, flatEqs P xs ys fs = some r ->
  (Op.eqFields (d + 1) vx vy fs).run P w = .ok r w
 | [], r, h => by cases h; simp [Op.eqFields]
 | f :: fs, r, h => by
  unfold flatEqs at h
  split at h
  case isTrue => cases h
  case isFalse hn =>
  split at h
  case h_2 => cases h
  case h_1 x y To Tu =>
  obtain ⟨u, hu, za⟩ := hx.get To
  obtain ⟨v, hv, Jc⟩ := hy.get Tu
  have qP : ∀ (vs : Array Value) (u : Value) (dd : TypeDesc), vs.toList[f.offset]? = some u -> P.underlying f.type = some dd -> jA dd = false -> (part f.type vs f.offset).run P w = .ok u w := by
   intro vs u dd hu hd hr
   rw [Array.getElem?_toList] at hu
   simp only [part, Sem.run_bind, wj hd, Result.andThen_ok, hr, Bool.false_eq_true, if_false, hu, Sem.run_pure]
  split at h
  ·rename_i he
   obtain ⟨h1, dd, hd, hr⟩ := HS (d := d) he za Jc
   have ih := Cs (d := d) hx hy h
   simp only [Op.eqFields, ne_eq, hn, not_false_eq_true, if_true, Sem.run_bind, qP vx u dd hu hd hr, qP vy v dd hv hd hr, Result.andThen_ok, h1, Bool.not_true, Bool.false_eq_true, if_false, ih]
  ·rename_i he
   cases h
   obtain ⟨h1, dd, hd, hr⟩ := HS (d := d) he za Jc
   simp only [Op.eqFields, ne_eq, hn, not_false_eq_true, if_true, Sem.run_bind, qP vx u dd hu hd hr, qP vy v dd hv hd hr, Result.andThen_ok, h1, Bool.not_false, Sem.run_pure]
  ·cases h
theorem TX {t : TypeId} {op : BinOp} {k : IntKind} {a b : Int} {v : V} (h : evInt op k a b = some v) : ∃ val, (binOp op t (.int k a) (.int k b)).run P w = .ok val w /\ V.R P I μ w v val := by
 unfold evInt at h
 split at h
 ·cases h; exact ⟨.int k (k.wrap (a + b)), by simp [binOp, Op.intArith], by simp [V.R]⟩
 ·cases h; exact ⟨.int k (k.wrap (a - b)), by simp [binOp, Op.intArith], by simp [V.R]⟩
 ·cases h; exact ⟨.int k (k.wrap (a * b)), by simp [binOp, Op.intArith], by simp [V.R]⟩
 ·split at h
  ·cases h
  ·rename_i hb; cases h; exact ⟨.int k (k.wrap (a.tdiv b)), by simp [binOp, Op.intDiv, hb], by simp [V.R]⟩
 ·split at h
  ·cases h
  ·rename_i hb; cases h; exact ⟨.int k (a.tmod b), by simp [binOp, Op.intDiv, hb], by simp [V.R]⟩
 ·unfold evCmp at h
  split at h <;> cases h
  all_goals refine ⟨_, by simp only [binOp]; simp [Op.intCmp]; rfl, by simp [V.R]⟩
theorem ae6 {t : TypeId} {op : BinOp} {a b : List UInt8} {v : V} (h : evStr op a b = some v) : ∃ val, (binOp op t (.string ⟨a.toArray⟩) (.string ⟨b.toArray⟩)).run P w = .ok val w /\ V.R P I μ w v val := by
 unfold evStr at h
 split at h
 ·split at h
  ·rename_i hl
   cases h
   refine ⟨.string ⟨(a ++ b).toArray⟩, ?_, by simp [V.R]⟩
   have hn : ¬ (9223372036854775807 < (a.length : Int) + (b.length : Int)) := af
   have e : (⟨a.toArray⟩ ++ ⟨b.toArray⟩ : ByteArray) = ⟨(a ++ b).toArray⟩ := by apply ByteArray.ext; simp
   simp only [binOp]
   simp [Op.stringOp, ByteArray.size, hn, e]
  ·cases h
 all_goals first | (cases h; done) | skip
 all_goals
  cases h
  refine ⟨_, by simp only [binOp]; simp [Op.stringOp]; rfl, by simp [V.R]⟩
theorem CD (op : BinOp) (t : TypeId) (ox oy : Operand) (k k' : IntKind) (a b : Int) : (eqGuard op t ox oy (.int k a) (.int k' b)).run P w = .ok () w := by cases op <;> rfl
theorem Q4 (op : BinOp) (t : TypeId) (ox oy : Operand) (a b : ByteArray) : (eqGuard op t ox oy (.string a) (.string b)).run P w = .ok () w := by cases op <;> rfl
theorem Ic (op : BinOp) (t : TypeId) (ox oy : Operand) (a b : Bool) : (eqGuard op t ox oy (.bool a) (.bool b)).run P w = .ok () w := by cases op <;> rfl
theorem Q3 (op : BinOp) (t : TypeId) (ox oy : Operand) (a : Option Addr) (l c : Nat) (b : Option Addr) (m d : Nat) : (eqGuard op t ox oy (.slice a l c) (.slice b m d)).run P w = .ok () w := by cases op <;> rfl
theorem Oo {op : BinOp} {t : TypeId} {ox oy : Operand} {x y v : V} {vx vy : Value} (h : evBin P op t x y = some v) (hx : V.R P I μ w x vx) (hy : V.R P I μ w y vy) :
  ∃ val, (do eqGuard op t ox oy vx vy; binOp op t vx vy : Sem Value).run P w = .ok val w /\ V.R P I μ w v val := by
 unfold evBin at h
 split at h
 ·simp only [V.R] at hx hy
  subst hx hy
  split at h
  ·rename_i hk; subst hk
   obtain ⟨val, h1, h2⟩ := TX (P := P) (I := I) (μ := μ) (w := w) (t := t) h
   exact ⟨val, by rw [Sem.run_bind, CD]; exact h1, h2⟩
  ·cases h
 ·simp only [V.R] at hx hy
  subst hx hy
  obtain ⟨val, h1, h2⟩ := ae6 (P := P) (I := I) (μ := μ) (w := w) (t := t) h
  exact ⟨val, by rw [Sem.run_bind, Q4]; exact h1, h2⟩
 ·simp only [V.R] at hx hy
  subst hx hy
  split at h
  ·rename_i hu
   cases h
   refine ⟨_, by rw [Sem.run_bind, Ic]; simp only [Result.andThen_ok, binOp]; simp [run_equal_bool w t _ _ hu]; rfl, by simp [V.R]⟩
  ·rename_i hu
   cases h
   refine ⟨_, by rw [Sem.run_bind, Ic]; simp only [Result.andThen_ok, binOp]; simp [run_equal_bool w t _ _ hu]; rfl, by simp [V.R]⟩
  ·cases h
 ·simp only [V.R] at hx hy
  obtain ⟨ax, rfl, hx⟩ := hx
  obtain ⟨ay, rfl, hy⟩ := hy
  split at h
  ·rename_i fs hu cG tq
   cases hr : flatEqs P _ _ fs.toList with
   | none => rw [hr] at h; cases h
   | some r =>
    rw [hr] at h; cases h
    have hf : P.fieldsOf t = fs := by simp [Program.fieldsOf, hu]
    refine ⟨.bool r, ?_, by simp [V.R]⟩
    rw [Sem.run_bind, run_eqGuard_agg w .eql t ox oy ax ay tq]
    simp only [Result.andThen_ok]
    rw [run_eql_struct, run_equalIn_struct w 9999 t ax ay (by rw [hf]; exact hu) cG, hf, Cs hx hy hr]
    rfl
  ·rename_i fs hu cG tq
   cases hr : flatEqs P _ _ fs.toList with
   | none => rw [hr] at h; cases h
   | some r =>
    rw [hr] at h; cases h
    have hf : P.fieldsOf t = fs := by simp [Program.fieldsOf, hu]
    refine ⟨.bool (!r), ?_, by simp [V.R]⟩
    rw [Sem.run_bind, run_eqGuard_agg w .neq t ox oy ax ay tq]
    simp only [Result.andThen_ok]
    rw [run_neq_struct, run_equalIn_struct w 9999 t ax ay (by rw [hf]; exact hu) cG, hf, Cs hx hy hr]
    rfl
  ·cases h
 ·cases h
theorem ai2 {op : UnOp} {x v : V} {vx : Value} (h : evUn op x = some v) (hx : V.R P I μ w x vx) : ∃ val, (Op.unary op vx).run P w = .ok val w /\ V.R P I μ w v val := by
 unfold evUn at h
 split at h
 case h_3 => cases h
 all_goals (split at h <;> cases h) <;> (simp only [V.R] at hx; subst hx)
 ·exact ⟨_, by simp [Op.unary, Op.intArith]; rfl, by simp [V.R]⟩
 ·exact ⟨_, by simp [Op.unary]; rfl, by simp [V.R]⟩
theorem BA : ∀ {cs : List V} {l : List UInt8} {vs : List Value}, bytesV cs = some l -> V.RL P I μ w cs vs -> vs = bv l
 | [], l, vs, h, hr => by cases h; simpa [V.RL, bv] using hr
 | c :: cs, l, vs, h, hr => by
  unfold bytesV at h
  split at h
  ·rename_i e; cases e
  ·rename_i n cs' e
   cases e
   split at h
   ·rename_i hn
    cases hb : bytesV cs with
    | none => rw [hb] at h; cases h
    | some l' =>
     rw [hb] at h; cases h
     simp only [V.RL] at hr
     obtain ⟨u, us, rfl, h1, h2⟩ := hr
     simp only [V.R] at h1
     subst h1
     have := BA hb h2
     subst this
     have hm : n % 256 = n := af
     simp [bv, UInt8.toNat_ofNat']
     omega
   ·cases h
  ·cases h
theorem Gv : ∀ {cs : List V} {l : List UInt8}, bytesV cs = some l -> iJ cs = true
 | [], _, _ => rfl
 | c :: cs, l, h => by
  unfold bytesV at h
  split at h
  ·rename_i e; cases e
  ·rename_i n t e
   split at h
   ·obtain ⟨l', h1, _⟩ := Option.map_eq_some_iff.1 h
    cases e
    have := Gv h1
    unfold iJ at this ⊢
    rw [List.all_cons, this]; rfl
   ·cases h
  ·cases h
theorem PB {s d : TypeId} {x : V} {vx : Value} (h : evConv P hp s d x = some out) (hx : V.R P I μ w x vx) (pre : cK P I μ w hp out.acc out.hp.length) :
  ∃ val w' μ', (convert s d vx).run P w = .ok val w' /\ V.R P I μ' w' out.v val /\ Good P I I μ μ' w w' hp out.hp out.acc out.wr := by
 unfold evConv at h
 split at h
 ·simp only [V.R] at hx
  subst hx
  split at h
  ·rename_i hs hd
   cases h
   exact ⟨_, w, μ, by simp [convert, run_underlying hs, run_underlying hd, Conv.intToInt]; rfl, by simp [V.R], Good.same hp pre⟩
  ·cases h
 ·rename_i l
  simp only [V.R] at hx
  subst hx
  split at h
  ·rename_i hs hd
   cases h
   exact ⟨_, w, μ, by simp [convert, run_underlying hs, run_underlying hd]; rfl, by simp [V.R], Good.same hp pre⟩
  ·rename_i e hs hd
   split at h
   ·rename_i i he hi
    split at h
    ·rename_i hc
     cases h
     have hr := run_bytes_of_string (P := P) w s d e ⟨l.toArray⟩ hs hd he
     have cM : (⟨l.toArray⟩ : ByteArray).size = l.length := rfl
     rw [cM] at hr
     have gm := grownCap_ge w l.length 0 e
     have dL : (bytesRow ⟨l.toArray⟩ (grownCap w l.length 0 e)).size = grownCap w l.length 0 e := by
      simp only [bytesRow, cM]; simp; omega
     obtain ⟨hg, c8⟩ := Good.zt (P := P) (I := I) (μ := μ) (w := w) (hp := hp) (acc := []) (blk := ([.aJ (l.map fun b => V.int .u8 b.toNat)], e)) (cs := bytesRow ⟨l.toArray⟩ (grownCap w l.length 0 e))
      (fr := ((bytesRow ⟨l.toArray⟩ (grownCap w l.length 0 e)).size, (bytesRow ⟨l.toArray⟩ (grownCap w l.length 0 e)).size + 1)) (wd := w.drew) (.inr rfl) (by simpa using pre) (.inr (Nat.le_refl _)) (.aJ (by simp [dL]; exact gm) (by
       have e1 : (bytesRow ⟨l.toArray⟩ (grownCap w l.length 0 e)).toList.take (l.map fun b => V.int .u8 b.toNat).length = bv l := by
        simp [bytesRow, bv]
       rw [e1]
       clear hr dL pre hc gm cM e1
       induction l with
       | nil => simp [V.RL, bv]
       | cons b l ih => simp only [List.map_cons, V.RL, bv]; exact ⟨_, _, rfl, by simp [V.R], ih⟩))
     refine ⟨_, _, _, hr, ?_, hg⟩
     simp only [V.R]
     exact .inl ⟨_, grownCap w l.length 0 e, e, _, i, Mu.ky _ _ _ _, rfl, gm, grownCap_le_maxLen w _ _ _ hc.1, by simp, c8, hi, by rw [hc.2]; show 0 + _ * 1 <= (bytesRow _ _).size; rw [dL]; omega⟩
    ·cases h
   ·cases h
  ·cases h
 ·rename_i b off n full
  simp only [V.R] at hx
  split at h
  ·rename_i e hs hd
   split at h
   ·rename_i blk he hb
    split at h
    ·rename_i hl
     split at h
     ·rename_i l mC
      cases h
      rcases hx with ⟨g, cap, e', N, i, hg, rfl, _, _, _, c8, _⟩ | ⟨rfl, rfl, a', rfl, _⟩
      ·obtain ⟨cs, dL, cM, eh⟩ := (pre.holds b (by simp) blk hb).Ma hg c8
       have jS := eh.part off n (Gv mC)
       have bI := BA mC jS
       have cC : n = l.length := by have := jS.length; rw [bI, hl] at this; simpa [bv] using this.symm
       refine ⟨_, w, μ, ED w s d e hs he hd _ n cap l cC (.inr ⟨_, rfl, dL.lt, fun j u hu => ?_⟩), by simp [V.R], Good.same hp pre⟩
       rw [<- bI] at hu
       rw [Addr.add_mid]
       exact dL.range off _ _ j u hu
      ·simp only [List.drop_zero, List.take_zero, bytesV, Option.some.injEq] at mC
       subst mC
       exact ⟨_, w, μ, ED w s d e hs he hd a' 0 0 [] rfl (.inl rfl), by simp [V.R], Good.same hp pre⟩
     ·cases h
    ·cases h
   ·cases h
  ·cases h
 ·rename_i n full jK
  simp only [V.R] at hx
  obtain ⟨a, cap, rfl, _, _, _, ey⟩ := hx
  split at h
  ·rename_i e hs hd
   split at h
   ·rename_i he
    split at h
    ·rename_i hl
     split at h
     ·rename_i l mC
      cases h
      have key : ∃ nv : List Value, V.RL P I μ w (jK.take n) nv /\ se w a nv := by
       rcases ey with rfl | h0 | ⟨g, off, rfl, _, cells, e, fr, hg, eh⟩
       ·exact ⟨[], by simp [V.RL], .inl rfl⟩
       ·exact ⟨[], by rw [h0]; simp [V.RL], .inl rfl⟩
       ·refine ⟨((cells.toList.drop off).take jK.length).take n, xR (eh.take _), .inr ⟨_, rfl, (Array.getElem?_eq_some_iff.1 hg).1, fun j v hv => ?_⟩⟩
        rw [Addr.add_mid]
        rw [List.getElem?_take] at hv
        split at hv
        ·rw [List.getElem?_take] at hv
         split at hv
         ·rw [List.getElem?_drop] at hv
          simpa [World.cell?, hg] using hv
         ·cases hv
        ·cases hv
      obtain ⟨nv, h1, h2⟩ := key
      have bI := BA mC h1
      have cC : n = l.length := by have := h1.length; rw [bI, hl] at this; simpa [bv] using this.symm
      exact ⟨_, w, μ, ED w s d e hs he hd _ n cap l cC (by rw [<- bI]; exact h2), by simp [V.R], Good.same hp pre⟩
     ·cases h
    ·cases h
   ·cases h
  ·cases h
 ·cases h
end
section
variable {P : Program} {I : Nat -> Prop} {μ μ' : Mu} {w w' : World} {hp : Hp} {out : Out}
def OptR (P : Program) (I : Nat -> Prop) (μ : Mu) (w : World) : Option V -> Option Value -> Prop
 | none, v => v = none
 | some x, v => ∃ u, v = some u /\ V.R P I μ w x u
theorem oq {x : V} {vx : Value} {d mI DN k : Nat} {code : BoundsCode} (h : evBound (some x) d mI = some k) (hx : V.R P I μ w x vx) (hl : mI <= DN) : (Instr.sliceBound vx DN code).run P w = .ok k w /\ k <= mI := by
 unfold evBound at h
 split at h
 ·rename_i e; cases e
 ·rename_i kk i e
  cases e
  split at h
  ·rename_i hc
   cases h
   simp only [V.R] at hx
   subst hx
   exact ⟨run_sliceBound w kk i DN code hc.1 af, af⟩
  ·cases h
 ·cases h
theorem tX {t e : TypeId} {s : Nat} (hu : P.underlying t = some (.slice e)) (hs : da P e = some s) (a : Option Addr) (len cap : Nat) (lo hi mx : Option Value) (l h m : Nat)
  (hb : (Instr.sliceBounds true len cap lo hi mx).run P w = .ok (l, h, m) w) : (Instr.sliceAt t (.slice a len cap) lo hi mx).run P w = .ok (.slice (if m = l then a else a.map (·.add (l * s))) (h - l) (m - l)) w := by
 simp only [Instr.sliceAt, Sem.run_bind, run_underlying hu, Result.andThen_ok, Instr.slice, hb, run_sizeOf hs, Sem.run_pure]
theorem x1 {isS : Bool} {n cap k h : Nat} {lo hi : Option V} {vl vh : Option Value} (h1 : evBound hi n n = some h) (h2 : evBound lo 0 h = some k) (iG : OptR P I μ w lo vl) (gn : OptR P I μ w hi vh) (hn : n <= cap) :
  (Instr.sliceBounds isS n cap vl vh none).run P w = .ok (k, h, cap) w /\ k <= h /\ h <= n := by
 have hh : (hi = none /\ vh = none /\ h = n) \/ ∃ u, vh = some u /\ h <= n /\ ∀ code, (Instr.sliceBound u cap code).run P w = .ok h w := by
  cases hi with
  | none => simp only [OptR] at gn; subst gn; cases h1; exact .inl ⟨rfl, rfl, rfl⟩
  | some x =>
   simp only [OptR] at gn
   obtain ⟨u, rfl, hu⟩ := gn
   exact .inr ⟨u, rfl, (oq (code := .sliceAcap) h1 hu hn).2, fun code => (oq (code := code) h1 hu hn).1⟩
 have hk : (lo = none /\ vl = none /\ k = 0) \/ ∃ u, vl = some u /\ k <= h /\ ∀ code, (Instr.sliceBound u h code).run P w = .ok k w := by
  cases lo with
  | none => simp only [OptR] at iG; subst iG; cases h2; exact .inl ⟨rfl, rfl, rfl⟩
  | some x =>
   simp only [OptR] at iG
   obtain ⟨u, rfl, hu⟩ := iG
   exact .inr ⟨u, rfl, (oq (code := .sliceB) h2 hu (Nat.le_refl _)).2, fun code => (oq (code := code) h2 hu (Nat.le_refl _)).1⟩
 rcases hh with ⟨_, rfl, rfl⟩ | ⟨u, rfl, hle, hc⟩ <;> rcases hk with ⟨_, rfl, rfl⟩ | ⟨v, rfl, hle', hd⟩
 ·exact ⟨rfl, af, af⟩
 ·exact ⟨by simp [Instr.sliceBounds, hd], af, af⟩
 ·exact ⟨by simp [Instr.sliceBounds, hc], af, af⟩
 ·exact ⟨by simp [Instr.sliceBounds, hc, hd], af, af⟩
theorem Bv {n cap k h m : Nat} {lo : Option V} {hi mx : V} {vl : Option Value} {vh vm : Value} (h0 : evBound (some mx) 0 n = some m) (h1 : evBound (some hi) 0 m = some h) (h2 : evBound lo 0 h = some k) (iG : OptR P I μ w lo vl) (gn : V.R P I μ w hi vh) (gZ : V.R P I μ w mx vm) (hn : n <= cap) :
  (Instr.sliceBounds true n cap vl (some vh) (some vm)).run P w = .ok (k, h, m) w /\ k <= h /\ h <= m /\ m <= n := by
 obtain ⟨a1, a2⟩ := oq (code := .slice3Acap) h0 gZ hn
 obtain ⟨b1, b2⟩ := oq (code := .slice3B) h1 gn (Nat.le_refl _)
 have hk : (lo = none /\ vl = none /\ k = 0) \/ ∃ u, vl = some u /\ k <= h /\ ∀ code, (Instr.sliceBound u h code).run P w = .ok k w := by
  cases lo with
  | none => simp only [OptR] at iG; subst iG; cases h2; exact .inl ⟨rfl, rfl, rfl⟩
  | some x =>
   simp only [OptR] at iG
   obtain ⟨u, rfl, hu⟩ := iG
   exact .inr ⟨u, rfl, (oq (code := .sliceB) h2 hu (Nat.le_refl _)).2, fun code => (oq (code := code) h2 hu (Nat.le_refl _)).1⟩
 rcases hk with ⟨_, rfl, rfl⟩ | ⟨v, rfl, hle', hd⟩
 ·exact ⟨by simp [Instr.sliceBounds, a1, b1], af, af, af⟩
 ·exact ⟨by simp [Instr.sliceBounds, a1, b1, hd], af, af, af⟩
theorem VR {g off n : Nat} {cs : List V} (h : cs = [] \/ I g /\ ∃ cells e fr, w.heap[g]? = some (.cells cells e fr) /\ V.RL P I bY w cs ((cells.toList.drop off).take cs.length)) :
  cs.take n = [] \/ I g /\ ∃ cells e fr, w.heap[g]? = some (.cells cells e fr) /\ V.RL P I bY w (cs.take n) ((cells.toList.drop off).take (cs.take n).length) := by
 rcases h with rfl | ⟨hi, cells, e, fr, hg, hr⟩
 ·exact .inl (by simp)
 ·refine .inr ⟨hi, cells, e, fr, hg, ?_⟩
  have := hr.take n
  rw [List.take_take] at this
  rw [List.length_take]
  exact this
theorem DS {g off n : Nat} {cs : List V} (h : cs = [] \/ I g /\ ∃ cells e fr, w.heap[g]? = some (.cells cells e fr) /\ V.RL P I bY w cs ((cells.toList.drop off).take cs.length)) :
  cs.drop n = [] \/ I g /\ ∃ cells e fr, w.heap[g]? = some (.cells cells e fr) /\ V.RL P I bY w (cs.drop n) ((cells.toList.drop (off + n)).take (cs.drop n).length) := by
 rcases h with rfl | ⟨hi, cells, e, fr, hg, hr⟩
 ·exact .inl (by simp)
 ·refine .inr ⟨hi, cells, e, fr, hg, ?_⟩
  have := hr.drop n
  rw [List.drop_take, List.drop_drop] at this
  rw [List.length_drop]
  exact this
theorem Ho {a : Option Addr} {cs : List V} {k h m s : Nat} (IQ : k <= h) (hhm : h <= m)
  {n : Nat} (hn : h <= n) (ey : cs = [] \/ n = 0 \/ ∃ g off, a = some ⟨g, off, none⟩ /\ I g /\ ∃ cells e fr, w.heap[g]? = some (.cells cells e fr) /\ V.RL P I bY w cs ((cells.toList.drop off).take cs.length)) :
  (cs.take (h * s)).drop (k * s) = [] \/ h - k = 0 \/ ∃ g off, (if m = k then a else a.map (·.add (k * s))) = some ⟨g, off, none⟩ /\ I g /\ ∃ cells e fr, w.heap[g]? = some (.cells cells e fr) /\ V.RL P I bY w ((cs.take (h * s)).drop (k * s)) ((cells.toList.drop off).take ((cs.take (h * s)).drop (k * s)).length) := by
 rcases ey with rfl | rfl | ⟨g, off, rfl, ey⟩
 ·exact .inl (by simp)
 ·exact .inl (by obtain rfl : h = 0 := af
                 simp)
 ·by_cases Ss : m = k
  ·obtain rfl : h = k := af
   exact .inl (List.drop_eq_nil_of_le (by simp; omega))
  ·rw [if_neg Ss]
   rcases DS (n := k * s) (VR (n := h * s) (.inr ey)) with h0 | h0
   ·exact .inl h0
   ·exact .inr <| .inr ⟨g, off + k * s, by simp [Addr.add_mid], h0⟩
theorem Hn {a : Option Addr} {cap m k s : Nat} (hm : m <= cap) (h : a = none /\ cap = 0 \/ ∃ g off, a = some ⟨g, off, none⟩) :
  (if m = k then a else a.map (·.add (k * s))) = none /\ m - k = 0 \/ ∃ g off, (if m = k then a else a.map (·.add (k * s))) = some ⟨g, off, none⟩ := by
 rcases h with ⟨rfl, h0⟩ | ⟨g, off, rfl⟩
 ·exact .inl ⟨by split <;> rfl, af⟩
 ·right
  split
  ·exact ⟨g, off, rfl⟩
  ·exact ⟨g, off + k * s, by simp [Addr.add_mid]⟩
theorem Qb {a : Option Addr} {cap k s : Nat} (_ : k <= cap) (h : a = none /\ cap = 0 \/ ∃ g off, a = some ⟨g, off, none⟩) :
  (if cap = k then a else a.map (·.add (k * s))) = none /\ cap - k = 0 \/ ∃ g off, (if cap = k then a else a.map (·.add (k * s))) = some ⟨g, off, none⟩ := Hn (Nat.le_refl _) h
theorem ac2 {t : TypeId} {x : V} {vx : Value} {lo hi mx : Option V} {vl vh vm : Option Value} (h : evSlice P hp t x lo hi mx = some out) (hx : V.R P I μ w x vx) (iG : OptR P I μ w lo vl) (gn : OptR P I μ w hi vh) (gZ : OptR P I μ w mx vm)
  (pre : cK P I μ w hp out.acc out.hp.length) :
  out.hp = hp /\ out.wr = [] /\ (∀ b ∈ out.acc, b < hp.length) /\ ∃ val, (Instr.sliceAt t vx vl vh vm).run P w = .ok val w /\ V.R P I μ w out.v val := by
 unfold evSlice at h
 split at h
 ·rename_i l
  simp only [V.R] at hx; simp only [OptR] at gZ
  subst hx gZ
  split at h
  case h_2 => cases h
  case h_1 hh hu lH =>
  split at h
  case h_2 => cases h
  case h_1 k eO =>
  cases h
  obtain ⟨hb, h1, h2⟩ := x1 (isS := false) (P := P) (w := w) (cap := l.length) lH eO iG gn (Nat.le_refl _)
  refine ⟨rfl, rfl, by simp, .string ((⟨l.toArray⟩ : ByteArray).extract k hh), ?_, ?_⟩
  ·have cM : (⟨l.toArray⟩ : ByteArray).size = l.length := rfl
   simp only [Instr.sliceAt, Sem.run_bind, run_underlying hu, Result.andThen_ok, Instr.slice, cM, hb, Sem.run_pure, Option.isSome_none, Bool.false_eq_true, if_false]
  ·simp only [V.R]
   congr 1
   apply ByteArray.ext
   simp [ByteArray.data_extract, List.extract_eq_take_drop, List.drop_take]
 ·rename_i b off n full
  simp only [V.R] at hx; simp only [OptR] at gZ
  subst gZ
  split at h
  case h_2 => cases h
  case h_1 e hh blk hu lH bu =>
  have bI : b < hp.length := (List.getElem?_eq_some_iff.1 bu).1
  split at h
  case h_2 => cases h
  case h_1 k s eO hs pa =>
  have jm : b ∈ out.acc := by
   split at h
   ·cases h; simp
   ·split at h <;> (cases h; simp)
  rcases hx with ⟨g, cap, e', N, i, hg, rfl, nB, cB, pb, c8, iF, hN⟩ | ⟨rfl, rfl, a', rfl, cY⟩
  case inr =>
   obtain ⟨hb, h1, h2⟩ := x1 (isS := true) (P := P) (w := w) (cap := 0) lH eO iG gn (Nat.le_refl _)
   obtain rfl : hh = 0 := by omega
   obtain rfl : k = 0 := by omega
   have hr := tX (P := P) (w := w) hu hs a' 0 0 vl vh none 0 0 0 hb
   split at h
   ·cases h
    refine ⟨rfl, rfl, by simpa using bI, _, hr, ?_⟩
    simp only [V.R]
    exact .inr ⟨bn, bn, a', by simp, cY⟩
   ·split at h
    ·omega
    ·cases h
     refine ⟨rfl, rfl, by simpa using bI, _, hr, ?_⟩
     simp only [V.R]
     exact ⟨a', 0, by simp, Nat.le_refl _, fun _ => rfl, cY.imp (fun h => ⟨h, rfl⟩) id, .inl trivial⟩
  obtain ⟨cs, fr, _, hw, _⟩ := (pre.holds b jm blk bu).kZ hg c8
  have pg := mS hw
  rw [c8] at pg
  cases pg
  rw [eq_of_beq pa] at iF
  have cM : i.size = s := by unfold da at hs; rw [iF] at hs; simpa using hs
  subst cM
  obtain ⟨hb, h1, h2⟩ := x1 (isS := true) (P := P) (w := w) lH eO iG gn nB
  have hr := tX (P := P) (w := w) hu hs (some ⟨g, off, none⟩) n cap vl vh none k hh cap hb
  have vq : (full && hh == n) = true -> cap = hh := by
   intro hf; simp at hf; have := pb hf.1; omega
  split at h
  ·cases h
   have yN : k = 0 := by simp only [evBound, Option.some.injEq] at eO; exact eO.symm
   subst yN
   refine ⟨rfl, rfl, by simpa using bI, _, hr, ?_⟩
   simp only [V.R]
   refine .inl ⟨g, cap, _, _, i, hg, ?_, by omega, cB, vq, c8, by rw [eq_of_beq pa]; exact iF, hN⟩
   split <;> simp [Addr.add]
  ·split at h
   ·rename_i IQ
    cases h
    refine ⟨rfl, rfl, by simpa using bI, _, hr, ?_⟩
    rw [if_neg (show ¬ cap = k by omega)]
    simp only [V.R]
    have hmul : k * i.size + (cap - k) * i.size = cap * i.size := by rw [<- Nat.add_mul]; congr 1; omega
    exact .inl ⟨g, cap - k, _, _, i, hg, by simp [Addr.add_mid], by omega, by omega, fun hf => by have := vq hf; omega, c8, by rw [eq_of_beq pa]; exact iF, by omega⟩
   ·rename_i IQ
    cases h
    obtain rfl : k = hh := by omega
    refine ⟨rfl, rfl, by simpa using bI, _, hr, ?_⟩
    simp only [V.R]
    refine ⟨some (if cap = k then ⟨g, off, none⟩ else (⟨g, off, none⟩ : Addr).add (k * i.size)), cap - k, ?_, by omega, fun hf => by have := vq hf; omega, .inr (by split; exact ⟨g, off, rfl⟩; exact ⟨g, off + k * i.size, by simp [Addr.add_mid]⟩), .inl trivial⟩
    split <;> simp
 ·rename_i b off n full m
  simp only [V.R] at hx; simp only [OptR] at gZ
  obtain ⟨Az, rfl, gZ⟩ := gZ
  split at h
  case h_2 => cases h
  case h_1 e m tr blk hu yS bu =>
  have bI : b < hp.length := (List.getElem?_eq_some_iff.1 bu).1
  simp only [OptR] at gn
  obtain ⟨Ay, rfl, gn⟩ := gn
  split at h
  case h_2 => cases h
  case h_1 hh lH =>
  split at h
  case h_2 => cases h
  case h_1 k s eO hs pa =>
  have jm : b ∈ out.acc := by
   split at h <;> (cases h; simp)
  rcases hx with ⟨g, cap, e', N, i, hg, rfl, nB, cB, pb, c8, iF, hN⟩ | ⟨rfl, rfl, a', rfl, cY⟩
  case inr =>
   obtain ⟨hb, h1, h2, h3⟩ := Bv (P := P) (w := w) (cap := 0) yS lH eO iG gn gZ (Nat.le_refl _)
   obtain rfl : m = 0 := by omega
   obtain rfl : hh = 0 := by omega
   obtain rfl : k = 0 := by omega
   have hr := tX (P := P) (w := w) hu hs a' 0 0 vl (some Ay) (some Az) 0 0 0 hb
   rw [if_pos rfl] at h
   cases h
   refine ⟨rfl, rfl, by simpa using bI, _, hr, ?_⟩
   simp only [V.R]
   exact ⟨a', 0, by simp, Nat.le_refl _, fun _ => rfl, cY.imp (fun h => ⟨h, rfl⟩) id, .inl trivial⟩
  obtain ⟨cs, fr, _, hw, _⟩ := (pre.holds b jm blk bu).kZ hg c8
  have pg := mS hw
  rw [c8] at pg
  cases pg
  rw [eq_of_beq pa] at iF
  have cM : i.size = s := by unfold da at hs; rw [iF] at hs; simpa using hs
  subst cM
  obtain ⟨hb, h1, h2, h3⟩ := Bv (P := P) (w := w) yS lH eO iG gn gZ nB
  have hr := tX (P := P) (w := w) hu hs (some ⟨g, off, none⟩) n cap vl (some Ay) (some Az) k hh m hb
  split at h
  ·rename_i ek
   cases h
   subst ek
   refine ⟨rfl, rfl, by simpa using bI, _, hr, ?_⟩
   simp only [V.R]
   refine ⟨some (if m = k then ⟨g, off, none⟩ else (⟨g, off, none⟩ : Addr).add (k * i.size)), m - k, ?_, by omega, fun hf => by have := eq_of_beq hf; omega, .inr (by split; exact ⟨g, off, rfl⟩; exact ⟨g, off + k * i.size, by simp [Addr.add_mid]⟩), .inl trivial⟩
   split <;> simp
  ·rename_i ek
   cases h
   refine ⟨rfl, rfl, by simpa using bI, _, hr, ?_⟩
   rw [if_neg (show ¬ m = k by omega)]
   simp only [V.R]
   have hmul : k * i.size + (m - k) * i.size = m * i.size := by rw [<- Nat.add_mul]; congr 1; omega
   have C8 : m * i.size <= cap * i.size := Nat.mul_le_mul_right _ (by omega)
   exact .inl ⟨g, m - k, _, _, i, hg, by simp [Addr.add_mid], by omega, by omega, fun hf => by have := eq_of_beq hf; omega, c8, by rw [eq_of_beq pa]; exact iF, by omega⟩
 ·rename_i n full jK
  simp only [V.R] at hx; simp only [OptR] at gZ
  obtain ⟨a, cap, rfl, nB, pb, tA, ey⟩ := hx
  subst gZ
  split at h
  case h_2 => cases h
  case h_1 e hh hu lH =>
  split at h
  case h_2 => cases h
  case h_1 k s eO hs =>
  obtain ⟨hb, h1, h2⟩ := x1 (isS := true) (P := P) (w := w) lH eO iG gn nB
  have hr := tX (P := P) (w := w) hu hs a n cap vl vh none k hh cap hb
  have vq : (full && hh == n) = true -> cap = hh := by
   intro hf; simp at hf; have := pb hf.1; omega
  cases h
  refine ⟨rfl, rfl, by simp, _, hr, ?_⟩
  simp only [V.R]
  refine ⟨_, cap - k, rfl, by omega, fun hf => by have := vq hf; omega, Qb (by omega) tA, Ho h1 (by omega) (by omega) ey⟩
 ·rename_i n full jK m
  simp only [V.R] at hx; simp only [OptR] at gZ
  obtain ⟨a, cap, rfl, nB, pb, tA, ey⟩ := hx
  obtain ⟨Az, rfl, gZ⟩ := gZ
  split at h
  case h_2 => cases h
  case h_1 e m tr hu yS =>
  simp only [OptR] at gn
  obtain ⟨Ay, rfl, gn⟩ := gn
  split at h
  case h_2 => cases h
  case h_1 hh lH =>
  split at h
  case h_2 => cases h
  case h_1 k s eO hs =>
  obtain ⟨hb, h1, h2, h3⟩ := Bv (P := P) (w := w) yS lH eO iG gn gZ nB
  have hr := tX (P := P) (w := w) hu hs a n cap vl (some Ay) (some Az) k hh m hb
  cases h
  refine ⟨rfl, rfl, by simp, _, hr, ?_⟩
  simp only [V.R]
  refine ⟨_, m - k, rfl, by omega, fun hf => by have := eq_of_beq hf; omega, Hn (by omega) tA, Ho h1 h2 (by omega) ey⟩
 ·cases h
end
section
variable {P : Program} {I : Nat -> Prop} {μ μ' : Mu} {w w' : World} {hp : Hp} {out : Out}
theorem eV {b : Nat} {x : Option bM} (h : hp[b]? = some x) : b < hp.length := (List.getElem?_eq_some_iff.1 h).1
theorem Pt {b : Nat} {bs : List Nat} (h : b < hp.length) (hs : ∀ c ∈ bs, c < hp.length) : ∀ c ∈ b :: bs, c < hp.length := by
 intro c hc
 rcases List.mem_cons.1 hc with rfl | hc
 ·exact h
 ·exact hs c hc
theorem Uv {t : TypeId} {x : V} (h : evLoad P hp t x = some out) : Tidy hp out.hp out.acc out.wr := by
 unfold evLoad at h
 split at h
 case h_3 => cases h
 case h_2 =>
  split at h
  case h_2 => cases h
  split at h
  ·split at h
   ·cases h; exact .same hp (by simp)
   ·cases h
  ·split at h
   ·cases h; exact .same hp (by simp)
   ·cases h
 split at h
 case h_2 => cases h
 rename_i hb _ _
 split at h
 ·split at h
  ·cases h; exact .same hp (by simpa using eV hb)
  ·cases h
 ·split at h
  ·split at h
   ·cases h; exact .same hp (by simpa using eV hb)
   ·cases h
  ·cases h
theorem ae5 {t : TypeId} {x y : V} (h : evStore P hp t x y = some out) : Tidy hp out.hp out.acc out.wr := by
 unfold evStore at h
 split at h
 case h_2 => cases h
 split at h
 case h_2 => cases h
 rename_i hb _
 split at h
 ·split at h
  ·cases h
   exact ⟨by simp, fun c hc hn => by rw [List.getElem?_set_ne (fun e => hn (by simp [e]))], by simp, by simpa using eV hb, by intro c hc; obtain rfl := List.mem_singleton.1 hc; exact ⟨_, hb⟩⟩
  ·cases h
 ·cases h
theorem MX {size : Nat} {x : V} {bs : List Nat} {m : Nat} {news : List V} (h : srcV hp size x = some (bs, m, news)) : ∀ b ∈ bs, b < hp.length := by
 unfold srcV at h
 split at h
 ·split at h
  ·rename_i hb
   split at h
   ·cases h; simpa using eV hb
   ·cases h
  ·cases h
 ·split at h
  ·cases h; simp
  ·cases h
 ·cases h
theorem Oa {t t' : TypeId} {x y : V} (h : evAppend P hp t t' x y = some out) : Tidy hp out.hp out.acc out.wr := by
 unfold evAppend at h
 split at h
 case h_2 => cases h
 split at h
 case h_2 => cases h
 split at h
 case h_2 => cases h
 split at h
 case isFalse => cases h
 split at h
 case h_2 => cases h
 rename_i lL
 have hs := MX lL
 split at h
 ·split at h
  case h_2 => cases h
  rename_i hb
  have bI := eV hb
  split at h
  case isFalse => cases h
  cases h
  refine ⟨by simp, fun c hc hn => ?_, by simp, Pt bI hs, by intro c hc; obtain rfl := List.mem_singleton.1 hc; exact ⟨_, hb⟩⟩
  rw [List.getElem?_append_left (by simpa using hc), List.getElem?_set_ne (fun e => hn (by simp [e]))]
 ·split at h
  ·cases h; exact .same hp hs
  ·split at h
   ·cases h; exact .new hp _ hs
   ·cases h
 ·cases h
theorem PC {s d : TypeId} {x : V} (h : evConv P hp s d x = some out) : Tidy hp out.hp out.acc out.wr := by
 unfold evConv at h
 split at h
 ·split at h
  ·cases h; exact .same hp (by simp)
  ·cases h
 ·split at h
  ·cases h; exact .same hp (by simp)
  ·split at h
   ·split at h
    ·cases h; exact .new hp _ (by simp)
    ·cases h
   ·cases h
  ·cases h
 ·split at h
  ·split at h
   ·rename_i hb
    split at h
    ·split at h
     ·cases h; exact .same hp (by simpa using eV hb)
     ·cases h
    ·cases h
   ·cases h
  ·cases h
 ·split at h
  ·split at h
   ·split at h
    ·split at h
     ·cases h; exact .same hp (by simp)
     ·cases h
    ·cases h
   ·cases h
  ·cases h
 ·cases h
theorem ac3 {t : TypeId} {x : V} {lo hi mx : Option V} (h : evSlice P hp t x lo hi mx = some out) : Tidy hp out.hp out.acc out.wr := by
 unfold evSlice at h
 split at h
 ·split at h
  ·split at h
   ·cases h; exact .same hp (by simp)
   ·cases h
  ·cases h
 ·split at h
  ·rename_i hb
   split at h
   ·split at h
    ·cases h; exact .same hp (by simpa using eV hb)
    ·split at h <;> (cases h; exact .same hp (by simpa using eV hb))
   ·cases h
  ·cases h
 ·split at h
  ·rename_i hb
   split at h
   ·split at h
    ·split at h <;> (cases h; exact .same hp (by simpa using eV hb))
    ·cases h
   ·cases h
  ·cases h
 ·split at h
  ·split at h
   ·cases h; exact .same hp (by simp)
   ·cases h
  ·cases h
 ·split at h
  ·split at h
   ·split at h
    ·cases h; exact .same hp (by simp)
    ·cases h
   ·cases h
  ·cases h
 ·cases h
theorem Yw {e : Operand -> V} {op : Op} (h : evPlain P e hp op = some out) : Tidy hp out.hp out.acc out.wr := by
 unfold evPlain at h
 split at h
 ·cases h; exact .same hp (by simp)
 ·cases h; exact .same hp (by simp)
 ·split at h
  ·cases h; exact .same hp (by simp)
  ·cases h
 ·unfold evAlloc at h
  split at h
  ·cases h; exact .new hp _ (by simp)
  ·cases h
 ·unfold x9 at h
  split at h
  ·cases h; exact .new hp _ (by simp)
  ·cases h
 ·unfold evBuild at h
  split at h
  ·split at h
   ·split at h
    ·cases h; exact .same hp (by simp)
    ·cases h
   ·cases h
  ·cases h
 ·unfold evBuildSlice at h
  split at h
  ·split at h
   ·split at h
    ·split at h
     ·split at h
      ·cases h; exact .new hp _ (by simp)
      ·cases h
     ·cases h
    ·cases h
   ·cases h
  ·cases h
 ·exact Uv h
 ·exact ae5 h
 ·split at h
  ·cases h; exact .same hp (by simp)
  ·cases h; exact .same hp (by simp)
  ·cases h; exact .same hp (by simp)
  ·cases h
 ·obtain ⟨v, _, rfl⟩ := Option.map_eq_some_iff.1 h; exact .same hp (by simp)
 ·obtain ⟨v, _, rfl⟩ := Option.map_eq_some_iff.1 h; exact .same hp (by simp)
 ·exact PC h
 ·split at h
  ·cases h; exact .same hp (by simp)
  ·cases h
 ·unfold evMakeSlice at h
  split at h
  ·split at h
   ·split at h
    ·split at h
     ·split at h
      ·cases h; exact .new hp _ (by simp)
      ·cases h
     ·cases h
    ·cases h
   ·cases h
  ·cases h
 ·exact ac3 h
 ·split at h
  ·split at h
   ·cases h; exact .same hp (by simp)
   ·cases h
  ·split at h
   ·cases h; exact .same hp (by simp)
   ·cases h
  ·split at h
   ·cases h; exact .same hp (by simp)
   ·cases h
  ·cases h
 ·split at h
  ·obtain ⟨v, _, rfl⟩ := Option.map_eq_some_iff.1 h; exact .same hp (by simp)
  ·cases h
 ·split at h
  ·split at h
   ·split at h
    ·cases h; exact .same hp (by simp)
    ·cases h
   ·cases h
  ·split at h
   ·split at h
    ·cases h; exact .same hp (by simp)
    ·cases h
   ·cases h
  ·cases h
 ·obtain ⟨v, _, rfl⟩ := Option.map_eq_some_iff.1 h; exact .same hp (by simp)
 ·split at h
  ·obtain ⟨v, _, rfl⟩ := Option.map_eq_some_iff.1 h; exact .same hp (by simp)
  ·cases h
 ·split at h
  ·exact Oa h
  ·unfold evLen at h
   split at h
   case h_4 => cases h
   all_goals
    split at h
    ·cases h; exact .same hp (by simp)
    ·cases h
  ·obtain ⟨v, _, rfl⟩ := Option.map_eq_some_iff.1 h; exact .same hp (by simp)
  ·obtain ⟨v, _, rfl⟩ := Option.map_eq_some_iff.1 h; exact .same hp (by simp)
  ·cases h
 ·cases h
def nZ (P : Program) (I : Nat -> Prop) (μ : Mu) (w : World) (hp : Hp) (out : Out) (s : Sem Value) : Prop :=
 ∃ val w' μ', s.run P w = .ok val w' /\ V.R P I μ' w' out.v val /\ Good P I I μ μ' w w' hp out.hp out.acc out.wr
theorem nZ.same {s : Sem Value} (h1 : out.hp = hp) (h2 : out.wr = []) (pre : cK P I μ w hp out.acc out.hp.length) (h : ∃ val, s.run P w = .ok val w /\ V.R P I μ w out.v val) : nZ P I μ w hp out s := by
 obtain ⟨val, h3, h4⟩ := h
 refine ⟨val, w, μ, h3, h4, ?_⟩
 rw [h1, h2]
 rw [h1] at pre
 exact Good.same hp pre
theorem uH {e : Operand -> V} {ρ : Operand -> Value} : ∀ {l : List Operand}, (∀ x ∈ l, V.R P I μ w (e x) (ρ x)) -> V.RL P I μ w (l.map e) (l.map ρ)
 | [], _ => by simp [V.RL]
 | x :: l, h => by simp only [List.map_cons, V.RL]; exact ⟨_, _, rfl, h x (by simp), uH fun y hy => h y (by simp [hy])⟩
theorem Bf {e : Operand -> V} {ρ : Operand -> Value} : ∀ {l : List (Nat × Operand)}, (∀ x ∈ l, V.R P I μ w (e x.2) (ρ x.2)) -> p7 P I μ w (l.map fun p => (p.1, e p.2)) (l.map fun p => (p.1, ρ p.2))
 | [], _ => .nil
 | x :: l, h => .cons (h x (by simp)) (Bf fun y hy => h y (by simp [hy]))
theorem Be {e : Operand -> V} {ρ : Operand -> Value} {o : Option Operand} (h : ∀ x, o = some x -> V.R P I μ w (e x) (ρ x)) : OptR P I μ w (o.map e) (o.map ρ) := by
 cases o with
 | none => rfl
 | some x => exact ⟨_, rfl, h x rfl⟩
theorem Yg {t : TypeId} {cs : List V} {off : Nat} {v : V} {vs : Array Value} (h : Ej P t cs off = some v) (hr : V.RL P I μ w cs vs.toList) : ∃ val, (part t vs off).run P w = .ok val w /\ V.R P I μ w v val := by
 unfold Ej at h
 split at h
 case h_2 => cases h
 case h_1 d s hu hs =>
 split at h
 ·rename_i hd
  cases h
  refine ⟨.agg (vs.extract off (off + s)), ?_, ?_⟩
  ·simp only [part, Sem.run_bind, wj hu, Result.andThen_ok, hd, if_true, run_sizeOf hs, Sem.run_pure]
  ·simp only [V.R]
   refine ⟨_, rfl, ?_⟩
   have := (hr.drop off).take s
   simpa [List.extract_eq_take_drop, List.take_drop] using this
 ·rename_i hd
  obtain ⟨u, mG, za⟩ := hr.get h
  refine ⟨u, ?_, za⟩
  rw [Array.getElem?_toList] at mG
  simp only [part, Sem.run_bind, wj hu, Result.andThen_ok, hd, Bool.false_eq_true, if_false, mG, Sem.run_pure]
theorem Yv {o : Oper} {e : Operand -> V} {ρ : Operand -> Value} (h : evPlain P e hp o.op = some out) (bR : ∀ x ∈ o.op.operands, V.R P I μ w (e x) (ρ x)) (pre : cK P I μ w hp out.acc out.hp.length) :
  ∃ nx val w' μ', (execOp ρ o).run P w = .ok nx w' /\ (nx = .value val \/ nx = .skip /\ val = undef) /\ V.R P I μ' w' out.v val /\ Good P I I μ μ' w w' hp out.hp out.acc out.wr := by
 have fin : ∀ s : Sem Value, execOp ρ o = (do pure (.value (<- s)) : Sem Next) -> nZ P I μ w hp out s -> ∃ nx val w' μ', (execOp ρ o).run P w = .ok nx w' /\ (nx = .value val \/ nx = .skip /\ val = undef) /\ V.R P I μ' w' out.v val /\ Good P I I μ μ' w w' hp out.hp out.acc out.wr := by
  intro s hs ⟨val, w', μ', h1, h2, h3⟩
  exact ⟨.value val, val, w', μ', by rw [hs]; simp only [Sem.run_bind, h1, Result.andThen_ok, Sem.run_pure], .inl rfl, h2, h3⟩
 have yu : ∀ s : Sem Value, (execOp ρ o).run P w = (do pure (.value (<- s)) : Sem Next).run P w -> nZ P I μ w hp out s -> ∃ nx val w' μ', (execOp ρ o).run P w = .ok nx w' /\ (nx = .value val \/ nx = .skip /\ val = undef) /\ V.R P I μ' w' out.v val /\ Good P I I μ μ' w w' hp out.hp out.acc out.wr := by
  intro s hs ⟨val, w', μ', h1, h2, h3⟩
  exact ⟨.value val, val, w', μ', by rw [hs]; simp only [Sem.run_bind, h1, Result.andThen_ok, Sem.run_pure], .inl rfl, h2, h3⟩
 unfold evPlain at h
 split at h <;> first | (rename_i cp; rw [cp] at bR) | skip
 ·cases h
  exact ⟨.value (ρ _), ρ _, w, μ, by simp only [execOp, cp, Sem.run_pure], .inl rfl, bR _ (by simp [Op.operands]), Good.same hp pre⟩
 ·cases h
  exact ⟨.value (ρ _), ρ _, w, μ, by simp only [execOp, cp, Sem.run_pure], .inl rfl, bR _ (by simp [Op.operands]), Good.same hp pre⟩
 ·rename_i c a b
  split at h
  ·rename_i t ht
   cases h
   have hc := bR c (by simp [Op.operands])
   rw [ht] at hc
   simp only [V.R] at hc
   refine ⟨.value (if t then ρ a else ρ b), _, w, μ, by simp only [execOp, cp, hc, asBool, Sem.run_bind, Sem.run_pure, Result.andThen_ok], .inl rfl, ?_, Good.same hp pre⟩
   cases t
   ·exact bR b (by simp [Op.operands])
   ·exact bR a (by simp [Op.operands])
  ·cases h
 ·exact fin _ (by simp only [execOp, cp]) (N7 h pre)
 ·exact fin _ (by simp only [execOp, cp]) (Ov h (bR _ (by simp [Op.operands])) pre)
 ·rename_i t ps
  obtain ⟨h1, h2, h3, h4⟩ := Ox (vs := ps.map fun (i, x) => (i, ρ x)) h (by
   rw [Array.toList_map]
   exact Bf fun x hx => bR _ (by simp only [Op.operands, List.mem_toArray, List.mem_map]; exact ⟨x, hx, rfl⟩))
  exact fin _ (by simp only [execOp, cp]) (.same h1 h2 pre h4)
 ·rename_i t n ps
  exact fin _ (by simp only [execOp, cp]) (Ow (vs := ps.map fun (i, x) => (i, ρ x)) h (by
   rw [Array.toList_map]
   exact Bf fun x hx => bR _ (by simp only [Op.operands, List.mem_toArray, List.mem_map]; exact ⟨x, hx, rfl⟩)) pre)
 ·obtain ⟨h1, h2, _, h4⟩ := JJ h (bR _ (by simp [Op.operands])) pre
  exact fin _ (by simp only [execOp, cp]) (.same h1 h2 pre h4)
 ·obtain ⟨w', μ', h1, h2, h3⟩ := ae4 h (bR _ (by simp [Op.operands])) (bR _ (by simp [Op.operands])) pre
  exact ⟨.skip, undef, w', μ', by simp only [execOp, cp, Sem.run_bind, h1, Result.andThen_ok, Sem.run_pure], .inr ⟨rfl, rfl⟩, by rw [h2]; simp [V.R], h3⟩
 ·rename_i x
  split at h
  ·rename_i b off hx
   cases h
   have hc := bR x (by simp [Op.operands])
   rw [hx] at hc
   have cF := hc
   simp only [V.R] at cF
   obtain ⟨g, _, hv⟩ := cF
   refine ⟨.value (ρ x), _, w, μ, by simp only [execOp, cp]; rw [hv]; rfl, .inl rfl, hc, Good.same hp pre⟩
  ·rename_i cs hx
   cases h
   have hc := bR x (by simp [Op.operands])
   rw [hx] at hc
   have cF := hc
   simp only [V.R] at cF
   obtain ⟨g, off, hv, _⟩ := cF
   refine ⟨.value (ρ x), _, w, μ, by simp only [execOp, cp]; rw [hv]; rfl, .inl rfl, hc, Good.same hp pre⟩
  ·rename_i b base rel hx
   cases h
   have hc := bR x (by simp [Op.operands])
   rw [hx] at hc
   have cF := hc
   simp only [V.R] at cF
   obtain ⟨g, _, hv⟩ := cF
   refine ⟨.value (ρ x), _, w, μ, by simp only [execOp, cp]; rw [hv]; rfl, .inl rfl, hc, Good.same hp pre⟩
  ·cases h
 ·rename_i op t x y yt
  obtain ⟨v, hv, rfl⟩ := Option.map_eq_some_iff.1 h
  exact fin (do eqGuard op t x y (ρ x) (ρ y); binOp op t (ρ x) (ρ y)) (by simp only [execOp, cp]) (.same rfl rfl pre (Oo hv (bR _ (by simp [Op.operands])) (bR _ (by simp [Op.operands]))))
 ·obtain ⟨v, hv, rfl⟩ := Option.map_eq_some_iff.1 h
  exact fin _ (by simp only [execOp, cp]) (.same rfl rfl pre (ai2 hv (bR _ (by simp [Op.operands]))))
 ·exact fin _ (by simp only [execOp, cp]) (PB h (bR _ (by simp [Op.operands])) pre)
 ·rename_i f first cap
  split at h
  ·rename_i hf
   cases h
   have RX : first = #[] := by cases first; simp_all
   refine fin (Instr.makeFunc (.func f) (first.map ρ) (cap.map ρ)) (by simp only [execOp, cp]) (.same rfl rfl pre ⟨.func (.func f) (first.map ρ) (cap.map ρ), rfl, ?_⟩)
   simp only [V.R, RX, Array.map_empty]
   refine ⟨_, rfl, ?_⟩
   rw [Array.toList_map]
   exact uH fun x hx => bR x (by simp only [Op.operands]; exact Array.mem_append.2 (.inr (by simpa using hx)))
  ·cases h
 ·exact fin _ (by simp only [execOp, cp]) (VI h (bR _ (by simp [Op.operands])) (bR _ (by simp [Op.operands])) pre)
 ·rename_i t x lo hi mx
  obtain ⟨h1, h2, _, h4⟩ := ac2 h (bR _ (by simp [Op.operands])) (Be (ρ := ρ) fun y hy => bR y (by simp [Op.operands, hy])) (Be (ρ := ρ) fun y hy => bR y (by simp [Op.operands, hy])) (Be (ρ := ρ) fun y hy => bR y (by simp [Op.operands, hy])) pre
  exact fin _ (by simp only [execOp, cp]) (.same h1 h2 pre h4)
 ·rename_i t x f
  split at h
  case h_4 => cases h
  case h_3 b base rel fd hx fy =>
   split at h
   case h_2 => cases h
   case h_1 s hs =>
   cases h
   have hc := bR x (by simp [Op.operands])
   rw [hx] at hc
   simp only [V.R] at hc
   obtain ⟨g, hg, hv⟩ := hc
   unfold fieldOf at fy
   split at fy
   case h_2 => cases fy
   case h_1 fields hu =>
   refine fin (Instr.fieldAt t (ρ x) f) (by simp only [execOp, cp]) (.same rfl rfl pre ⟨.pointer (some ⟨g, base + (rel + fd.offset), none⟩), ?_, ?_⟩)
   ·simp only [hv, Instr.fieldAt, Sem.run_bind, run_underlying hu, Result.andThen_ok, fy, Instr.sureAddr, Sem.run_pure, fieldPlace, run_sizeOf hs]
    rw [if_neg af]
    simp [Addr.add_mid, Nat.add_assoc]
   ·simp only [V.R]; exact ⟨g, hg, rfl⟩
  case h_2 cs fd hx fy =>
   split at h
   case h_2 => cases h
   case h_1 s hs =>
   cases h
   have hc := bR x (by simp [Op.operands])
   rw [hx] at hc
   simp only [V.R] at hc
   obtain ⟨g, off, hv, ey⟩ := hc
   unfold fieldOf at fy
   split at fy
   case h_2 => cases fy
   case h_1 fields hu =>
   refine fin (Instr.fieldAt t (ρ x) f) (by simp only [execOp, cp]) (.same rfl rfl pre ⟨.pointer (some ⟨g, off + fd.offset, none⟩), ?_, ?_⟩)
   ·simp only [hv, Instr.fieldAt, Sem.run_bind, run_underlying hu, Result.andThen_ok, fy, Instr.sureAddr, Sem.run_pure, fieldPlace, run_sizeOf hs]
    rw [if_neg af]
    simp [Addr.add_mid]
   ·simp only [V.R]; exact ⟨g, off + fd.offset, rfl, DS ey⟩
  case h_1 b off fd hx fy =>
  split at h
  case h_2 => cases h
  case h_1 s hs =>
  cases h
  have hc := bR x (by simp [Op.operands])
  rw [hx] at hc
  simp only [V.R] at hc
  obtain ⟨g, hg, hv⟩ := hc
  unfold fieldOf at fy
  split at fy
  case h_2 => cases fy
  case h_1 fields hu =>
  refine fin (Instr.fieldAt t (ρ x) f) (by simp only [execOp, cp]) (.same rfl rfl pre ⟨.pointer (some ⟨g, off + fd.offset, none⟩), ?_, ?_⟩)
  ·simp only [hv, Instr.fieldAt, Sem.run_bind, run_underlying hu, Result.andThen_ok, fy, Instr.sureAddr, Sem.run_pure, fieldPlace, run_sizeOf hs]
   rw [if_neg af]
   simp [Addr.add_mid]
  ·simp only [V.R]; exact ⟨g, hg, rfl⟩
 ·rename_i t x f
  split at h
  case h_2 => cases h
  case h_1 cs fd hx fy =>
  obtain ⟨v, hv, rfl⟩ := Option.map_eq_some_iff.1 h
  have hc := bR x (by simp [Op.operands])
  rw [hx] at hc
  simp only [V.R] at hc
  obtain ⟨vs, gH, eh⟩ := hc
  unfold fieldOf at fy
  split at fy
  case h_2 => cases fy
  case h_1 fields hu =>
  obtain ⟨val, h1, h2⟩ := Yg hv eh
  refine fin (Instr.field t (ρ x) f) (by simp only [execOp, cp]) (.same rfl rfl pre ⟨val, ?_, h2⟩)
  simp only [gH, Instr.field, Sem.run_bind, run_underlying hu, Result.andThen_ok, fy, asAgg, Sem.run_pure, h1]
 ·rename_i t x i
  split at h
  case h_3 => cases h
  case h_2 n full cs k ii el hx hi hu =>
   split at h
   case h_2 => cases h
   case h_1 s hs =>
   split at h
   case isFalse => cases h
   case isTrue cL =>
   cases h
   have hc := bR x (by simp [Op.operands])
   have gV := bR i (by simp [Op.operands])
   rw [hx] at hc
   rw [hi] at gV
   simp only [V.R] at hc gV
   obtain ⟨a, cap, hv, nA, _, Rk, ey⟩ := hc
   rcases Rk with ⟨_, h0⟩ | ⟨g, off, rfl⟩
   ·omega
   have ey : cs = [] \/ I g /\ ∃ cells e fr, w.heap[g]? = some (.cells cells e fr) /\ V.RL P I bY w cs ((cells.toList.drop off).take cs.length) := by
    rcases ey with h | h0 | ⟨g', off', he, hm⟩
    ·exact .inl h
    ·omega
    ·cases he; exact .inr hm
   refine fin (Instr.indexAt t (ρ x) (ρ i)) (by simp only [execOp, cp]) (.same rfl rfl pre ⟨.pointer (some ⟨g, off + ii.toNat * s, none⟩), ?_, ?_⟩)
   ·simp only [hv, gV, Instr.indexAt, Sem.run_bind, asIntOf, run_underlying hu, Result.andThen_ok, Sem.run_pure, cL, and_self, if_true, run_sizeOf hs, Addr.add_mid]
   ·simp only [V.R]; exact ⟨g, _, rfl, DS ey⟩
  case h_1 b off n full k ii el hx hi hu =>
  split at h
  case h_2 => cases h
  case h_1 s hs =>
  split at h
  case isFalse => cases h
  case isTrue cL =>
  cases h
  have hc := bR x (by simp [Op.operands])
  have gV := bR i (by simp [Op.operands])
  rw [hx] at hc
  rw [hi] at gV
  simp only [V.R] at hc gV
  obtain ⟨g, cap, e', N, inf, hg, hv, _⟩ := hc.resolve_right (by rintro ⟨_, h0, _⟩; omega)
  refine fin (Instr.indexAt t (ρ x) (ρ i)) (by simp only [execOp, cp]) (.same rfl rfl pre ⟨.pointer (some ⟨g, off + ii.toNat * s, none⟩), ?_, ?_⟩)
  ·simp only [hv, gV, Instr.indexAt, Sem.run_bind, asIntOf, run_underlying hu, Result.andThen_ok, Sem.run_pure, cL, and_self, if_true, run_sizeOf hs, Addr.add_mid]
  ·simp only [V.R]; exact ⟨g, hg, rfl⟩
 ·rename_i t x i
  obtain ⟨v, hv, rfl⟩ := Option.map_eq_some_iff.1 h
  have hc := bR x (by simp [Op.operands])
  have gV := bR i (by simp [Op.operands])
  unfold evIndex at hv
  split at hv
  case h_2 => cases hv
  case h_1 l k ii hx hi =>
  rw [hx] at hc
  rw [hi] at gV
  simp only [V.R] at hc gV
  split at hv
  case h_2 => cases hv
  case h_1 hu =>
  split at hv
  case isFalse => cases hv
  case isTrue h0 =>
  obtain ⟨b, hb, rfl⟩ := Option.map_eq_some_iff.1 hv
  obtain ⟨bO, Rv⟩ := List.getElem?_eq_some_iff.1 hb
  refine fin (Instr.index t (ρ x) (ρ i)) (by simp only [execOp, cp]) (.same rfl rfl pre ⟨.int .u8 b.toNat, ?_, by simp [V.R]⟩)
  rw [hc, gV, run_index_string w t _ k ii hu]
  have cM : (⟨l.toArray⟩ : ByteArray).size = l.length := rfl
  rw [dif_pos ⟨h0, by rw [cM]; omega⟩]
  have : (⟨l.toArray⟩ : ByteArray)[ii.toNat]'(by rw [cM]; omega) = b := by rw [<- Rv]; rfl
  rw [this]
 ·rename_i x i
  split at h
  case h_2 => cases h
  case h_1 vs hx =>
  obtain ⟨v, hv, rfl⟩ := Option.map_eq_some_iff.1 h
  have hc := bR x (by simp [Op.operands])
  rw [hx] at hc
  simp only [V.R] at hc
  obtain ⟨us, Td, eh⟩ := hc
  obtain ⟨u, hu, hr⟩ := eh.get hv
  refine fin (Instr.extract (ρ x) i) (by simp only [execOp, cp]) (.same rfl rfl pre ⟨u, ?_, hr⟩)
  rw [Array.getElem?_toList] at hu
  simp only [Td, Instr.extract, hu, Sem.run_pure]
 ·rename_i c
  have eX : ∀ x ∈ c.args, V.R P I μ w (e x) (ρ x) := fun x hx => bR x (by simp only [Op.operands, Call.operands]; exact Array.mem_append.2 (.inr hx))
  split at h
  ·rename_i s x t t' iC ha aL
   have cY : c.args = #[s, x] := by cases bS : c.args; rw [bS] at ha; simp at ha; simp [ha]
   have nu : c.argTypes = #[t, t'] := by cases bS : c.argTypes; rw [bS] at aL; simp at aL; simp [aL]
   rw [cY] at eX
   refine yu (Builtin.append_ #[t, t'] o.type #[ρ s, ρ x]) ?_ (N9 h (eX s (by simp)) (eX x (by simp)) pre)
   simp only [execOp, cp, resolve, iC, cY, nu, invoke, builtin, Sem.run_bind, Sem.run_pure, Result.andThen_ok, List.map_toArray, List.map_cons, List.map_nil]
  ·rename_i x t iC ha aL
   have cY : c.args = #[x] := by cases bS : c.args; rw [bS] at ha; simp at ha; simp [ha]
   have nu : c.argTypes = #[t] := by cases bS : c.argTypes; rw [bS] at aL; simp at aL; simp [aL]
   rw [cY] at eX
   obtain ⟨h1, h2, _, h4⟩ := Uo (ty := o.type) h (eX x (by simp))
   refine yu (Builtin.len_ #[t] o.type #[ρ x]) ?_ (.same h1 h2 pre h4)
   simp only [execOp, cp, resolve, iC, cY, nu, invoke, builtin, Sem.run_bind, Sem.run_pure, Result.andThen_ok, List.map_toArray, List.map_cons, List.map_nil]
  ·rename_i x y iC ha
   have cY : c.args = #[x, y] := by cases bS : c.args; rw [bS] at ha; simp at ha; simp [ha]
   rw [cY] at eX
   obtain ⟨v, hv, rfl⟩ := Option.map_eq_some_iff.1 h
   have h1 := eX x (by simp)
   have h2 := eX y (by simp)
   unfold HE at hv
   split at hv
   case h_2 => cases hv
   rename_i k a k' b hx hy
   cases hv
   rw [hx] at h1
   rw [hy] at h2
   simp only [V.R] at h1 h2
   refine yu (Builtin.min_ c.argTypes o.type #[ρ x, ρ y]) ?_ (.same rfl rfl pre ⟨.int k (if b < a then b else a), ?_, by simp only [V.R]⟩)
   ·simp only [execOp, cp, resolve, iC, cY, invoke, builtin, Sem.run_bind, Sem.run_pure, Result.andThen_ok, List.map_toArray, List.map_cons, List.map_nil]
   ·rw [h1, h2]; simp [Builtin.min_, Builtin.min2]
  ·rename_i x y iC ha
   have cY : c.args = #[x, y] := by cases bS : c.args; rw [bS] at ha; simp at ha; simp [ha]
   rw [cY] at eX
   obtain ⟨v, hv, rfl⟩ := Option.map_eq_some_iff.1 h
   have h1 := eX x (by simp)
   have h2 := eX y (by simp)
   unfold HD at hv
   split at hv
   case h_2 => cases hv
   rename_i k a k' b hx hy
   cases hv
   rw [hx] at h1
   rw [hy] at h2
   simp only [V.R] at h1 h2
   refine yu (Builtin.max_ c.argTypes o.type #[ρ x, ρ y]) ?_ (.same rfl rfl pre ⟨.int k (if b > a then b else a), ?_, by simp only [V.R]⟩)
   ·simp only [execOp, cp, resolve, iC, cY, invoke, builtin, Sem.run_bind, Sem.run_pure, Result.andThen_ok, List.map_toArray, List.map_cons, List.map_nil]
   ·rw [h1, h2]; simp [Builtin.max_, Builtin.max2]
  ·cases h
 ·cases h
end
def nilC : Operand -> Bool
 | .const (.slice none 0 0) => true
 | _ => false
def isNilV : V -> Option Bool
 | .sl _ _ (_ + 1) _ => some false
 | .dsl (_ + 1) _ _ => some false
 | .lit (.slice none 0 0) => some true
 | .lit (.slice (some _) _ _) => some false
 | _ => none
def evClear (P : Program) (hp : Hp) (t : TypeId) (x : V) : Option Out :=
 match P.underlying t with
 | some (.slice elem) => match x with
  | .dsl 0 _ _ => some ⟨.tup [], hp, [], []⟩
  | .sl _ _ 0 _ => some ⟨.tup [], hp, [], []⟩
  | .sl b off (n + 1) _ => match P.info? elem, hp[b]? with
   | some i, some (some blk) => match i.zero with
    | some z =>
     if blk.2 = elem /\ 0 < i.size /\ z.cells.size = i.size /\ (gB (z.cells.toList.map ofScalar) ((n + 1) * i.size)).all V.one = true /\ off + (n + 1) * i.size <= (flat blk.1).length then
      match spliceV blk.1 off ((n + 1) * i.size) (gB (z.cells.toList.map ofScalar) ((n + 1) * i.size)) with
      | some l => some ⟨.tup [], hp.set b (some (l, blk.2)), [b], [b]⟩
      | none => none
     else none
    | none => none
   | _, _ => none
  | _ => none
 | _ => none
def evApp0 (P : Program) (hp : Hp) (t t' : TypeId) (s x : V) : Option Out :=
 match P.underlying t, t == t' with
 | some (.slice elem), true => match P.info? elem, s, x with
  | some _, .sl b off n full, .lit (.slice _ 0 _) => some ⟨.sl b off n full, hp, [], []⟩
  | some _, .dsl n full cs, .lit (.slice _ 0 _) => some ⟨.dsl n full cs, hp, [], []⟩
  | _, _, _ => none
 | _, _ => none
def evCopy (P : Program) (hp : Hp) (t : TypeId) (s x : V) : Option Out :=
 match P.underlying t with
 | some (.slice elem) =>
  match P.info? elem, s with
  | some i, .sl b off n _ =>
   match hp[b]?, srcV hp i.size x with
   | some (some blk), some (bs, m, news) =>
    if 0 < m /\ 0 < i.size /\ m <= n /\ off + m * i.size <= (flat blk.1).length then
     match spliceV blk.1 off (m * i.size) (flat news) with
     | some l => some ⟨.int .i64 m, hp.set b (some (l, blk.2)), b :: bs, [b]⟩
     | none => none
    else none
   | _, _ => none
  | _, _ => none
 | _ => none
def evMore (P : Program) (e : Operand -> V) (hp : Hp) : Op -> Option Out
 | .binOp op t x y _ => match nilC y with
  | true => match P.underlying t, isNilV (e x), op with
   | some (.slice _), some b, .eql => some ⟨.bool b, hp, [], []⟩
   | some (.slice _), some b, .neq => some ⟨.bool (!b), hp, [], []⟩
   | _, _, _ => none
  | false => match op, e x, e y with
   | .shr, .int k a, .int _ b => if 0 <= b then some ⟨.int k (a.fdiv (2 ^ min b.toNat k.bits)), hp, [], []⟩ else none
   | .shl, .int k a, .int _ b => if 0 <= b then some ⟨.int k (k.wrap (a * 2 ^ min b.toNat k.bits)), hp, [], []⟩ else none
   | _, _, _ => none
 | .call c => match c.callee, c.args.toList, c.argTypes.toList with
  | .builtin .append, [s, x], [t, t'] => evApp0 P hp t t' (e s) (e x)
  | .builtin .clear, [x], [t] => evClear P hp t (e x)
  | .builtin .copy, [s, x], [t, _] => evCopy P hp t (e s) (e x)
  | _, _, _ => none
 | .makeInterface t x => match P.underlying t with
  | some (.interface _) => none
  | some _ => some ⟨.box (.iface t) [e x], hp, [], []⟩
  | none => none
 | .makeFunc (.func f) first cap => some ⟨.box (.bound f first.size) ((first ++ cap).toList.map e), hp, [], []⟩
 | .indexAddr t x i => match P.underlying t, e x, e i with
  | some (.array n el), .ptr b off, .int _ i => match da P el with
   | some s => if 0 <= i /\ i < n then some ⟨.ptr b (off + i.toNat * s), hp, [], []⟩ else none
   | none => none
  | _, _, _ => none
 | _ => none
section
variable {P : Program} {I : Nat -> Prop} {μ : Mu} {w : World} {hp : Hp} {out : Out}
theorem PE {t : TypeId} {x y : V} (h : evCopy P hp t x y = some out) : Tidy hp out.hp out.acc out.wr := by
 unfold evCopy at h
 split at h
 case h_2 => cases h
 split at h
 case h_2 => cases h
 split at h
 case h_2 => cases h
 case h_1 i b off n full hi blk bs m news hb lL =>
 split at h
 ·split at h
  ·cases h
   exact ⟨by simp, fun c hc hn => by rw [List.getElem?_set_ne (fun e => hn (by simp [e]))], by simp, fun c hc => by
    rcases List.mem_cons.1 hc with rfl | hc
    ·exact eV hb
    ·exact MX lL c hc, by intro c hc; obtain rfl := List.mem_singleton.1 hc; exact ⟨_, hb⟩⟩
  ·cases h
 ·cases h
theorem VW {e : Operand -> V} {op : Op} (h : evMore P e hp op = some out) : Tidy hp out.hp out.acc out.wr := by
 unfold evMore at h
 split at h
 ·split at h
  ·split at h
   ·cases h; exact .same hp (by simp)
   ·cases h; exact .same hp (by simp)
   ·cases h
  ·split at h
   ·split at h
    ·cases h; exact .same hp (by simp)
    ·cases h
   ·split at h
    ·cases h; exact .same hp (by simp)
    ·cases h
   ·cases h
 ·split at h
  ·unfold evApp0 at h
   split at h
   ·split at h
    ·cases h; exact .same hp (by simp)
    ·cases h; exact .same hp (by simp)
    ·cases h
   ·cases h
  ·unfold evClear at h
   split at h
   case h_2 => cases h
   split at h
   ·cases h; exact .same hp (by simp)
   ·cases h; exact .same hp (by simp)
   ·split at h
    ·rename_i i blk hi hb
     split at h
     ·split at h
      ·split at h
       ·cases h
        exact ⟨by simp, fun c hc hn => by rw [List.getElem?_set_ne (fun e => hn (by simp [e]))], by simp, by simpa using eV hb, by intro c hc; obtain rfl := List.mem_singleton.1 hc; exact ⟨_, hb⟩⟩
       ·cases h
      ·cases h
     ·cases h
    ·cases h
   ·cases h
  ·exact PE h
  ·cases h
 ·split at h
  ·cases h
  ·cases h; exact .same hp (by simp)
  ·cases h
 ·cases h; exact .same hp (by simp)
 ·split at h
  ·split at h
   ·split at h
    ·cases h; exact .same hp (by simp)
    ·cases h
   ·cases h
  ·cases h
 ·cases h
theorem ZE (w : World) (d : Nat) (t e : TypeId) (a : Option Addr) (l c : Nat) (h : P.underlying t = some (.slice e)) : (Op.equalIn (d + 1) t (.slice a l c) (.slice none 0 0)).run P w = .ok a.isNone w := by
 cases a <;> simp [Op.equalIn, run_underlying h]
theorem Mh (w : World) (t e : TypeId) (a : Option Addr) (l c : Nat) (h : P.underlying t = some (.slice e)) : (Op.equal t (.slice a l c) (.slice none 0 0)).run P w = .ok a.isNone w := ZE w 9999 t e a l c h
theorem KA {t : TypeId} {ox oy : Operand} {x : V} {vx vy : Value} {b : Bool} {e : TypeId} {op : BinOp} (hu : P.underlying t = some (.slice e)) (hn : isNilV x = some b) (hx : V.R P I μ w x vx) (hy : vy = .slice none 0 0) (cp : op = .eql \/ op = .neq) :
  (do eqGuard op t ox oy vx vy; binOp op t vx vy : Sem Value).run P w = .ok (.bool (if op = .eql then b else !b)) w := by
 subst hy
 have key : ∃ a l c, vx = .slice a l c /\ b = a.isNone := by
  unfold isNilV at hn
  split at hn
  ·cases hn
   simp only [V.R] at hx
   obtain ⟨g, cap, _, _, _, _, rfl, _⟩ := hx.resolve_right (by rintro ⟨_, h0, _⟩; omega)
   exact ⟨_, _, _, rfl, rfl⟩
  ·cases hn
   simp only [V.R] at hx
   obtain ⟨a, cap, rfl, hle, _, ha, _⟩ := hx
   rcases ha with ⟨_, h0⟩ | ⟨g, off, rfl⟩
   ·omega
   ·exact ⟨_, _, _, rfl, rfl⟩
  ·cases hn
   simp only [V.R] at hx
   exact ⟨_, _, _, hx, rfl⟩
  ·cases hn
   simp only [V.R] at hx
   exact ⟨_, _, _, hx, rfl⟩
  ·cases hn
 obtain ⟨a, l, c, rfl, rfl⟩ := key
 rw [Sem.run_bind, Q3]
 simp only [Result.andThen_ok]
 rcases cp with rfl | rfl
 ·simp only [binOp]
  simp [Mh w t e a l c hu]
 ·simp only [binOp]
  simp [Mh w t e a l c hu]
theorem OY {t ty : TypeId} {x : V} {vx : Value} (h : evClear P hp t x = some out) (hx : V.R P I μ w x vx) (pre : cK P I μ w hp out.acc out.hp.length) : nZ P I μ w hp out (Builtin.clear_ #[t] ty #[vx]) := by
 unfold evClear at h
 split at h
 case h_2 => cases h
 case h_1 elem hu =>
 split at h
 ·cases h
  simp only [V.R] at hx
  obtain ⟨a, cap, rfl, _⟩ := hx
  refine .same rfl rfl pre ⟨.tuple #[], ?_, by simp [V.R, V.RL]⟩
  cases a <;> simp [Builtin.clear_, run_underlying hu]
 ·cases h
  simp only [V.R] at hx
  rcases hx with ⟨g, cap, _, _, _, _, rfl, _⟩ | ⟨_, _, a', rfl, _⟩
  ·refine .same rfl rfl pre ⟨.tuple #[], ?_, by simp [V.R, V.RL]⟩
   simp [Builtin.clear_, run_underlying hu]
  ·refine .same rfl rfl pre ⟨.tuple #[], ?_, by simp [V.R, V.RL]⟩
   cases a' <;> simp [Builtin.clear_, run_underlying hu]
 ·rename_i b off n full
  split at h
  case h_2 => cases h
  case h_1 i blk hi hb =>
  split at h
  case h_2 => cases h
  case h_1 z hz =>
  split at h
  case isFalse => cases h
  case isTrue hc =>
  obtain ⟨pa, jR, iZ, h1, hle⟩ := hc
  split at h
  case h_2 => cases h
  case h_1 l' kS =>
  cases h
  simp only [V.R] at hx
  obtain ⟨g, cap, e, N, i', hg, rfl, _, _, _, c8, _⟩ := hx.resolve_right (by rintro ⟨_, h0, _⟩; omega)
  obtain ⟨cs, fr, _, hw, dP, ⟨cM, jP⟩, _⟩ := (pre.holds b (by simp) blk hb).kZ hg c8
  have dL : Row w g blk.2 cs := ⟨fr, hw, dP⟩
  have zi : V.RL P I μ w (gB (z.cells.toList.map ofScalar) ((n + 1) * i.size)) (Builtin.zeroCells z.cells (n + 1)).toList := by
   have := xS (P := P) (I := I) (μ := μ) (w := w) z.cells ((n + 1) * i.size)
   unfold Builtin.zeroCells
   rw [iZ]; rw [iZ] at this; exact this
  have fa : (Builtin.zeroCells z.cells (n + 1)).toList.length = (n + 1) * i.size := by simp [Builtin.zeroCells, iZ]
  have cG := rL P g off blk.2 (Builtin.zeroCells z.cells (n + 1)).toList 0 cs w dL af (tK zi h1)
  simp only [Nat.add_zero] at cG
  obtain ⟨dK, F', lC, qK⟩ := ET kS jP zi (by simp [gB]) hle
  refine ⟨.tuple #[], w.setRow g (cs.toList.take off ++ (Builtin.zeroCells z.cells (n + 1)).toList ++ cs.toList.drop (off + (Builtin.zeroCells z.cells (n + 1)).toList.length)).toArray, μ.dY b F', ?_, by simp [V.R, V.RL], ?_⟩
  ·simp [Builtin.clear_, Sem.run_bind, run_underlying hu, zeroValue, typeInfo, hi, hz]
   rw [cG]
   simp
  ·have e := Ar cs.toList (Builtin.zeroCells z.cells (n + 1)).toList off (flat blk.1).length af (by simpa using cM)
   have gH : (Builtin.zeroCells z.cells (n + 1)).size = (n + 1) * i.size := by simpa using fa
   refine Good.rY (bG := (l', blk.2)) (by simpa using pre) (by simp) hb hg hw rfl ?_ dP lC ?_
   ·simp only [List.size_toArray, List.length_append, List.length_take, List.length_drop, Array.length_toList]; omega
   ·refine ⟨?_, ?_⟩
    ·show (flat l').length <= _
     rw [dK]; simp only [List.size_toArray, List.length_append, List.length_take, List.length_drop, Array.length_toList]; omega
    ·show CR P I μ w F' l' (List.take (flat l').length _)
     rw [dK, e, fa]
     exact qK
 ·cases h
theorem PD {t t' ty : TypeId} {x y : V} {vx vy : Value} (h : evCopy P hp t x y = some out) (hx : V.R P I μ w x vx) (hy : V.R P I μ w y vy) (pre : cK P I μ w hp out.acc out.hp.length) : nZ P I μ w hp out (Builtin.copy_ #[t, t'] ty #[vx, vy]) := by
 unfold evCopy at h
 split at h
 case h_2 => cases h
 case h_1 elem hu =>
 split at h
 case h_2 => cases h
 case h_1 i b off n full hi =>
 split at h
 case h_2 => cases h
 case h_1 blk bs m news hb lL =>
 split at h
 case isFalse => cases h
 case isTrue hc =>
 obtain ⟨hm, jR, C7, hle⟩ := hc
 split at h
 case h_2 => cases h
 case h_1 l' kS =>
 cases h
 simp only [V.R] at hx
 obtain ⟨g, cap, e, N, i', hg, rfl, _, _, _, c8, _⟩ := hx.resolve_right (by rintro ⟨_, h0, _⟩; omega)
 obtain ⟨a, c, nv, rfl, h1, h2, ko, h3, _, gG⟩ := zZ lL hy fun b' bX => pre.holds b' (by simp [bX])
 obtain ⟨cs, fr, _, hw, dP, ⟨cM, jP⟩, _⟩ := (pre.holds b (by simp) blk hb).kZ hg c8
 have Q6 := (h2.la.xe gG).2
 have dL : Row w g blk.2 cs := ⟨fr, hw, dP⟩
 have iX := h2.length
 have fa : nv.length = m * i.size := by rw [iX, h1]
 have hmp : 0 < m * i.size := Nat.mul_pos hm jR
 have bp : nv ≠ [] := by
  rintro rfl
  simp at fa; omega
 obtain ⟨ad, rfl, ti⟩ := DM h3 bp
 have hf := run_firstCells_some (P := P) w i.size m ad m c nv fa ti
 have cG := rL P g off blk.2 nv 0 cs w dL af ko
 simp only [Nat.add_zero] at cG
 obtain ⟨dK, F', lC, qK⟩ := ET kS jP Q6 h1 hle
 refine ⟨.int .i64 m, w.setRow g (cs.toList.take off ++ nv ++ cs.toList.drop (off + nv.length)).toArray, μ.dY b F', ?_, by simp [V.R], ?_⟩
 ·have C6 : Nat.min m n = m := Nat.min_eq_left C7
  simp [Builtin.copy_, Sem.run_bind, run_underlying hu, sizeOf, typeInfo, hi, Builtin.lenOf, C6, hf, cG]
  rfl
 ·have e := Ar cs.toList nv off (flat blk.1).length af (by simpa using cM)
  refine Good.rY (bG := (l', blk.2)) (by simpa using pre) (by simp) hb hg hw rfl ?_ dP lC ?_
  ·simp only [List.size_toArray, List.length_append, List.length_take, List.length_drop, Array.length_toList]; omega
  ·refine ⟨?_, ?_⟩
   ·show (flat l').length <= _
    rw [dK]; simp only [List.size_toArray, List.length_append, List.length_take, List.length_drop, Array.length_toList]; omega
   ·show CR P I μ w F' l' (List.take (flat l').length _)
    rw [dK, e, fa]
    exact qK
theorem N8 {t t' ty : TypeId} {x y : V} {vx vy : Value} (h : evApp0 P hp t t' x y = some out) (hx : V.R P I μ w x vx) (hy : V.R P I μ w y vy) (pre : cK P I μ w hp out.acc out.hp.length) : nZ P I μ w hp out (Builtin.append_ #[t, t'] ty #[vx, vy]) := by
 unfold evApp0 at h
 split at h
 case h_2 => cases h
 case h_1 elem hu eA =>
 obtain rfl : t = t' := by simpa using eA
 split at h
 ·rename_i i b off n full a c hi
  cases h
  have kU := hx
  simp only [V.R] at hx hy
  subst hy
  rcases hx with ⟨g, cap, e, N, i', hg, rfl, hle, _⟩ | ⟨_, rfl, a', rfl, _⟩
  ·exact .same rfl rfl pre ⟨_, sq hu hi _ n cap hle a c, kU⟩
  ·exact .same rfl rfl pre ⟨_, sq hu hi a' 0 0 (Nat.le_refl _) a c, kU⟩
 ·rename_i i n full cs a c hi
  cases h
  have kU := hx
  simp only [V.R] at hx hy
  subst hy
  obtain ⟨b, cap, rfl, hle, _⟩ := hx
  exact .same rfl rfl pre ⟨_, sq hu hi _ n cap hle a c, kU⟩
 ·cases h
theorem VV {o : Oper} {e : Operand -> V} {ρ : Operand -> Value} (hρ : ∀ v, ρ (.const v) = v) (h : evMore P e hp o.op = some out) (bR : ∀ x ∈ o.op.operands, V.R P I μ w (e x) (ρ x)) (pre : cK P I μ w hp out.acc out.hp.length) :
  ∃ val w' μ', (execOp ρ o).run P w = .ok (.value val) w' /\ V.R P I μ' w' out.v val /\ Good P I I μ μ' w w' hp out.hp out.acc out.wr := by
 have fin : ∀ s : Sem Value, (execOp ρ o).run P w = (do pure (.value (<- s)) : Sem Next).run P w -> nZ P I μ w hp out s -> ∃ val w' μ', (execOp ρ o).run P w = .ok (.value val) w' /\ V.R P I μ' w' out.v val /\ Good P I I μ μ' w w' hp out.hp out.acc out.wr := by
  intro s hs ⟨val, w', μ', h1, h2, h3⟩
  exact ⟨val, w', μ', by rw [hs]; simp only [Sem.run_bind, h1, Result.andThen_ok, Sem.run_pure], h2, h3⟩
 unfold evMore at h
 split at h <;> first | (rename_i cp; rw [cp] at bR) | skip
 ·rename_i op t x y yt
  have hx := bR x (by simp [Op.operands])
  split at h
  ·rename_i hn
   have hy : ρ y = .slice none 0 0 := by
    unfold nilC at hn
    split at hn
    ·exact hρ _
    ·cases hn
   split at h
   ·rename_i e b hu hv
    cases h
    refine fin (do eqGuard .eql t x y (ρ x) (ρ y); binOp .eql t (ρ x) (ρ y)) (by simp only [execOp, cp]) (.same rfl rfl pre ⟨_, KA hu hv hx hy (.inl rfl), by simp [V.R]⟩)
   ·rename_i e b hu hv
    cases h
    refine fin (do eqGuard .neq t x y (ρ x) (ρ y); binOp .neq t (ρ x) (ρ y)) (by simp only [execOp, cp]) (.same rfl rfl pre ⟨_, KA hu hv hx hy (.inr rfl), by simp [V.R]⟩)
   ·cases h
  ·have hy := bR y (by simp [Op.operands])
   split at h
   ·rename_i k a k' b hex CQ
    split at h
    ·rename_i hb
     cases h
     rw [hex] at hx
     rw [CQ] at hy
     simp only [V.R] at hx hy
     refine fin (do eqGuard .shr t x y (ρ x) (ρ y); binOp .shr t (ρ x) (ρ y)) (by simp only [execOp, cp]) (.same rfl rfl pre ⟨.int k (a.fdiv (2 ^ min b.toNat k.bits)), ?_, by simp [V.R]⟩)
     rw [hx, hy, Sem.run_bind, CD]
     simp only [Result.andThen_ok, binOp, Op.shift]
     rw [if_neg af]
     rfl
    ·cases h
   ·rename_i k a k' b hex CQ
    split at h
    ·rename_i hb
     cases h
     rw [hex] at hx
     rw [CQ] at hy
     simp only [V.R] at hx hy
     refine fin (do eqGuard .shl t x y (ρ x) (ρ y); binOp .shl t (ρ x) (ρ y)) (by simp only [execOp, cp]) (.same rfl rfl pre ⟨.int k (k.wrap (a * 2 ^ min b.toNat k.bits)), ?_, by simp [V.R]⟩)
     rw [hx, hy, Sem.run_bind, CD]
     simp only [Result.andThen_ok, binOp, Op.shift]
     rw [if_neg af]
     rfl
    ·cases h
   ·cases h
 ·rename_i c
  have eX : ∀ x ∈ c.args, V.R P I μ w (e x) (ρ x) := fun x hx => bR x (by simp only [Op.operands, Call.operands]; exact Array.mem_append.2 (.inr hx))
  split at h
  ·rename_i s x t t' iC ha aL
   have cY : c.args = #[s, x] := by cases bS : c.args; rw [bS] at ha; simp at ha; simp [ha]
   have nu : c.argTypes = #[t, t'] := by cases bS : c.argTypes; rw [bS] at aL; simp at aL; simp [aL]
   rw [cY] at eX
   refine fin (Builtin.append_ #[t, t'] o.type #[ρ s, ρ x]) ?_ (N8 h (eX s (by simp)) (eX x (by simp)) pre)
   simp only [execOp, cp, resolve, iC, cY, nu, invoke, builtin, Sem.run_bind, Sem.run_pure, Result.andThen_ok, List.map_toArray, List.map_cons, List.map_nil]
  ·rename_i x t iC ha aL
   have cY : c.args = #[x] := by cases bS : c.args; rw [bS] at ha; simp at ha; simp [ha]
   have nu : c.argTypes = #[t] := by cases bS : c.argTypes; rw [bS] at aL; simp at aL; simp [aL]
   rw [cY] at eX
   refine fin (Builtin.clear_ #[t] o.type #[ρ x]) ?_ (OY h (eX x (by simp)) pre)
   simp only [execOp, cp, resolve, iC, cY, nu, invoke, builtin, Sem.run_bind, Sem.run_pure, Result.andThen_ok, List.map_toArray, List.map_cons, List.map_nil]
  ·rename_i s x t t' iC ha aL
   have cY : c.args = #[s, x] := by cases bS : c.args; rw [bS] at ha; simp at ha; simp [ha]
   have nu : c.argTypes = #[t, t'] := by cases bS : c.argTypes; rw [bS] at aL; simp at aL; simp [aL]
   rw [cY] at eX
   refine fin (Builtin.copy_ #[t, t'] o.type #[ρ s, ρ x]) ?_ (PD h (eX s (by simp)) (eX x (by simp)) pre)
   simp only [execOp, cp, resolve, iC, cY, nu, invoke, builtin, Sem.run_bind, Sem.run_pure, Result.andThen_ok, List.map_toArray, List.map_cons, List.map_nil]
  ·cases h
 ·rename_i t x
  have hx := bR x (by simp [Op.operands])
  split at h
  ·cases h
  ·rename_i d I6 hu
   cases h
   refine fin (Instr.makeInterface t (ρ x)) (by simp only [execOp, cp]) (.same rfl rfl pre ⟨.iface t (ρ x), ?_, ?_⟩)
   ·simp only [Instr.makeInterface, Sem.run_bind, run_underlying hu, Result.andThen_ok]
    rfl
   ·simp only [V.R, V.RL]
    exact ⟨#[ρ x], by simp [BK.mk], ρ x, [], rfl, hx, rfl⟩
  ·cases h
 ·rename_i f first cap
  cases h
  refine fin (Instr.makeFunc (.func f) (first.map ρ) (cap.map ρ)) (by simp only [execOp, cp]) (.same rfl rfl pre ⟨.func (.func f) (first.map ρ) (cap.map ρ), rfl, ?_⟩)
  simp only [V.R]
  refine ⟨(first ++ cap).map ρ, ?_, ?_⟩
  ·have e1 : ((first ++ cap).map ρ).extract 0 first.size = first.map ρ := by
    apply Array.ext'
    simp only [Array.toList_extract, List.extract_eq_take_drop, Array.toList_map, Array.toList_append, List.map_append, List.drop_zero, Nat.sub_zero]
    rw [List.take_append_of_le_length (by simp), List.take_of_length_le (by simp)]
   have e2 : ((first ++ cap).map ρ).extract first.size ((first ++ cap).map ρ).size = cap.map ρ := by
    apply Array.ext'
    simp only [Array.toList_extract, List.extract_eq_take_drop, Array.toList_map, Array.toList_append, List.map_append, Array.size_map, Array.size_append]
    rw [List.drop_append_of_le_length (by simp), List.drop_of_length_le (by simp), List.nil_append, List.take_of_length_le (by simp)]
   show Value.func _ _ _ = Value.func _ _ _
   rw [e1, e2]
  ·rw [Array.toList_map]
   exact uH fun x hx => bR x (by simp only [Op.operands]; simpa using hx)
 ·rename_i t x i
  have hx := bR x (by simp [Op.operands])
  have hi := bR i (by simp [Op.operands])
  split at h
  ·rename_i n el b off kk k hu hex RV
   split at h
   ·rename_i sz hs
    split at h
    ·rename_i cL
     cases h
     rw [hex] at hx
     rw [RV] at hi
     simp only [V.R] at hx hi
     obtain ⟨g, hg, hx⟩ := hx
     refine fin (Instr.indexAt t (ρ x) (ρ i)) (by simp only [execOp, cp]) (.same rfl rfl pre ⟨.pointer (some ⟨g, off + k.toNat * sz, none⟩), ?_, ?_⟩)
     ·rw [hx, hi]
      simp [Instr.indexAt, asIntOf, run_underlying hu, Instr.sureAddr, run_sizeOf hs, cL, Addr.add_mid]
     ·simp only [V.R]; exact ⟨g, hg, rfl⟩
    ·cases h
   ·cases h
  ·cases h
 ·cases h
end
def pos : List Nat -> Nat -> Option Nat
 | [], _ => none
 | x :: t, b => if x = b then some 0 else (pos t b).map (· + 1)
mutual
def V.ren (ρ : Nat -> Option Nat) : V -> V
 | .ptr b off => match ρ b with
  | some b' => .ptr b' off
  | none => .b9
 | .sl b off n f => match ρ b with
  | some b' => .sl b' off n f
  | none => .b9
 | .agg cs => .agg (V.renL ρ cs)
 | .tup cs => .tup (V.renL ρ cs)
 | .fn f cs => .fn f (V.renL ρ cs)
 | .box f cs => .box f (V.renL ρ cs)
 | .eptr b base rel => match ρ b with
  | some b' => .eptr b' base rel
  | none => .b9
 | .osl T n o cs => .osl T n o cs
 | .int k n => .int k n
 | .bool b => .bool b
 | .str s => .str s
 | .iI => .iI
 | .dsl n f cs => .dsl n f cs
 | .dptr cs => .dptr cs
 | .aJ cs => .aJ cs
 | .cu cs => .cu cs
 | .jX => .jX
 | .lit v => .lit v
 | .b9 => .b9
def V.renL (ρ : Nat -> Option Nat) : List V -> List V
 | [] => []
 | c :: cs => V.ren ρ c :: V.renL ρ cs
end
def j1 (ρ : Nat -> Option Nat) (blk : Option bM) : Option bM := blk.map fun x => (V.renL ρ x.1, x.2)
def reach (hp : Hp) : Nat -> List Nat -> List Nat -> List Nat
 | 0, _, seen => seen
 | _ + 1, [], seen => seen
 | n + 1, b :: t, seen =>
  if seen.contains b then reach hp n t seen else
  match hp[b]? with
  | some (some blk) => reach hp n (t ++ V.refsL blk.1) (seen ++ [b])
  | _ => reach hp n t seen
structure aj where
 v : V
 hp : Hp
 wr : List Nat
abbrev fG := FuncId -> List V -> Hp -> Option aj
def kL (ids : List Nat) (top : Nat) (j : Nat) : Option Nat := if j < ids.length then ids[j]? else some (top + (j - ids.length))
def evCall (callF : fG) (hp : Hp) (f : FuncId) (vs : List V) : Option Out :=
 let ids := reach hp 100000 (V.refsL vs) []
 match callF f (V.renL (pos ids) vs) (ids.map fun b => j1 (pos ids) (hp.getD b none)) with
 | some r =>
  let back := kL ids hp.length
  let wr := r.wr.filterMap fun j => ids[j]?
  some ⟨V.ren back r.v, (hp.zipIdx.map fun x => if wr.contains x.2 then j1 back (((pos ids x.2).bind fun j => r.hp[j]?).getD none) else x.1) ++ (r.hp.drop ids.length).map (j1 back), ids, wr⟩
 | none => none
def uE (P : Program) (t : TypeId) (name : String) (f : FuncId) : Prop := ∀ (v : Value) (args : Array Value) (w : World), (callMethod (.iface t v) name args).run P w = .ok (.enter f (#[v] ++ args)) w
open Classical in
noncomputable def vU (P : Program) (t : TypeId) (name : String) : Option FuncId := if h : ∃ f, uE P t name f then some h.choose else none
theorem V1 {P : Program} {t : TypeId} {name : String} {f : FuncId} (h : vU P t name = some f) : uE P t name f := by
 unfold vU at h
 split at h
 ·rename_i hx; cases h; exact hx.choose_spec
 ·cases h
theorem V0 {P : Program} {t : TypeId} {name : String} {f : FuncId} (h : uE P t name f) : vU P t name = some f := by
 have hx : ∃ f, uE P t name f := ⟨f, h⟩
 have h2 := hx.choose_spec
 unfold vU
 rw [dif_pos hx]
 have a := h .nilFunc #[] default
 have b := h2 .nilFunc #[] default
 rw [a] at b
 injection b with b1 b2
 injection b1 with b3 b4
 rw [<- b3]
noncomputable def evOp (P : Program) (callF : fG) (e : Operand -> V) (hp : Hp) (o : Op) : Option Out :=
 match o with
 | .call { callee := .value f, args := args, argTypes := ts } =>
  match e f with
  | .fn g cap => evCall callF hp g (args.toList.map e ++ cap)
  | _ => none
 | .call { callee := .invoke x name, args := args, argTypes := _ } =>
  match e x with
  | .box (.iface t) [v] => match vU P t name with
   | some f => evCall callF hp f (v :: args.toList.map e)
   | none => none
  | _ => none
 | o => match evPlain P e hp o with
  | some out => some out
  | none => evMore P e hp o
inductive Tr where
 | leaf
 | node (v : V) (l r : Tr)
def Tr.get : Tr -> Nat -> V
 | .leaf, _ => .b9
 | .node v l r, i => match Nat.beq i 0 with
  | true => v
  | false => match Nat.beq (i % 2) 1 with
   | true => l.get (i / 2)
   | false => r.get (i / 2 - 1)
def Tr.set : Tr -> Nat -> V -> Tr
 | .leaf, _, _ => .leaf
 | .node v l r, i, x => match Nat.beq i 0 with
  | true => .node x l r
  | false => match Nat.beq (i % 2) 1 with
   | true => .node v (l.set (i / 2) x) r
   | false => .node v l (r.set (i / 2 - 1) x)
def Tr.setK {β : Type _} : Tr -> Nat -> V -> (Tr -> β) -> β
 | .leaf, _, _, k => k .leaf
 | .node v l r, i, x, k => match Nat.beq i 0 with
  | true => k (.node x l r)
  | false => match Nat.beq (i % 2) 1 with
   | true => l.setK (i / 2) x fun t => k (.node v t r)
   | false => r.setK (i / 2 - 1) x fun t => k (.node v l t)
theorem Tr.EL {β : Type _} : ∀ (t : Tr) (i : Nat) (x : V) (k : Tr -> β), t.setK i x k = k (t.set i x)
 | .leaf, _, _, _ => rfl
 | .node v l r, i, x, k => by
  unfold Tr.setK Tr.set
  cases Nat.beq i 0
  ·cases Nat.beq (i % 2) 1
   ·simp only [Tr.EL r]
   ·simp only [Tr.EL l]
  ·rfl
theorem Tr.oU : ∀ (t : Tr) (i j : Nat) (x : V), i ≠ j -> (t.set i x).get j = t.get j
 | .leaf, _, _, _, _ => rfl
 | .node v l r, i, j, x, h => by
  have e : ∀ n m : Nat, Nat.beq n m = decide (n = m) := fun n m => by rw [Bool.eq_iff_iff]; simp
  unfold Tr.set
  by_cases hi : i = 0
  ·have hj : j ≠ 0 := af
   simp [e, hi, Tr.get, hj]
  ·by_cases II : i % 2 = 1
   ·simp only [e, hi, II, decide_true, decide_false]
    unfold Tr.get
    by_cases hj : j = 0
    ·simp [hj, e]
    ·by_cases vA : j % 2 = 1
     ·simp only [e, hj, vA, decide_true, decide_false]
      exact Tr.oU l _ _ x af
     ·simp [e, hj, vA]
   ·simp only [e, hi, II, decide_false]
    unfold Tr.get
    by_cases hj : j = 0
    ·simp [hj, e]
    ·by_cases vA : j % 2 = 1
     ·simp [e, hj, vA]
     ·simp only [e, hj, vA, decide_false]
      exact Tr.oU r _ _ x af
theorem Tr.get_eq : ∀ (t : Tr) (i : Nat) (x : V), (t.set i x).get i = x \/ (t.set i x).get i = .b9
 | .leaf, _, _ => .inr rfl
 | .node v l r, i, x => by
  unfold Tr.set
  cases h0 : Nat.beq i 0
  ·cases h1 : Nat.beq (i % 2) 1
   ·simp only [Tr.get, h0, h1]; exact Tr.get_eq r _ x
   ·simp only [Tr.get, h0, h1]; exact Tr.get_eq l _ x
  ·left; simp only [Tr.get, h0]
structure Tm where
 n : Nat
 t : Tr
def Tm.get (m : Tm) (i : Nat) : V := match Nat.blt i m.n with
 | true => m.t.get i
 | false => .b9
def Tm.put (m : Tm) (i : Nat) (x : V) : Tm := ⟨m.n, m.t.set i x⟩
theorem Tm.oU (m : Tm) {i j : Nat} (x : V) (h : i ≠ j) : (m.put i x).get j = m.get j := by
 unfold Tm.get Tm.put
 simp only [Tr.oU m.t i j x h]
theorem Tm.get_eq (m : Tm) (i : Nat) (x : V) : (m.put i x).get i = x /\ i < m.n \/ (m.put i x).get i = .b9 := by
 unfold Tm.get Tm.put
 cases h : Nat.blt i m.n
 ·exact .inr rfl
 ·have : i < m.n := by simpa using h
  rcases Tr.get_eq m.t i x with h | h
  ·exact .inl ⟨h, this⟩
  ·exact .inr h
def Tr.mk0 : Nat -> Tr
 | 0 => .leaf
 | k + 1 => .node .b9 (Tr.mk0 k) (Tr.mk0 k)
theorem Tr.zq : ∀ (k i : Nat), (Tr.mk0 k).get i = .b9
 | 0, _ => rfl
 | k + 1, i => by
  unfold Tr.mk0 Tr.get
  cases Nat.beq i 0
  ·cases Nat.beq (i % 2) 1
   ·exact Tr.zq k _
   ·exact Tr.zq k _
  ·rfl
def Tm.fill : List V -> Nat -> Tm -> Tm
 | [], _, m => m
 | v :: vs, i, m => Tm.fill vs (i + 1) (m.put i v)
theorem Tm.HN : ∀ (vs : List V) (i : Nat) (m : Tm) (t : Nat), ((Tm.fill vs i m).get t = m.get t) \/ ((Tm.fill vs i m).get t = .b9) \/ (∃ k, t = i + k /\ vs[k]? = some ((Tm.fill vs i m).get t))
 | [], _, _, _ => .inl rfl
 | v :: vs, i, m, t => by
  unfold Tm.fill
  rcases Tm.HN vs (i + 1) (m.put i v) t with h | h | ⟨k, hk, h⟩
  ·by_cases e : i = t
   ·subst e
    rcases m.get_eq i v with h2 | h2
    ·right; right; exact ⟨0, rfl, by rw [h, h2.1]; rfl⟩
    ·right; left; rw [h, h2]
   ·left; rw [h, m.oU v e]
  ·exact .inr (.inl h)
  ·exact .inr (.inr ⟨k + 1, af, by simpa using h⟩)
theorem Tm.HO : ∀ (vs : List V) (i : Nat) (m : Tm), (Tm.fill vs i m).n = m.n
 | [], _, _ => rfl
 | _ :: vs, i, m => by unfold Tm.fill; rw [Tm.HO vs]; rfl
def Tm.start (n : Nat) (vs : List V) : Tm := Tm.fill vs 0 ⟨n, Tr.mk0 11⟩
theorem Tm.ad7 (n : Nat) (vs : List V) (t : Nat) : (Tm.start n vs).get t = .b9 \/ vs[t]? = some ((Tm.start n vs).get t) := by
 have h0 : (⟨n, Tr.mk0 11⟩ : Tm).get t = .b9 := by
  unfold Tm.get
  cases Nat.blt t n
  ·rfl
  ·exact Tr.zq _ _
 rcases Tm.HN vs 0 ⟨n, Tr.mk0 11⟩ t with h | h | ⟨k, hk, h⟩
 ·left; unfold Tm.start; rw [h, h0]
 ·exact .inl h
 ·right; rw [show t = k by omega] at h ⊢; exact h
def evalV (tm : Tm) : Operand -> V
 | .tmp t => tm.get t
 | .const v => ofValue v
 | .func f => .fn f []
 | .global _ => .b9
structure St where
 tm : Tm
 hp : Hp
 wr : List Nat
def wantedV (ops : Array Oper) (tm : Tm) (o : Oper) : Option Bool :=
 match o.guard with
 | none => some true
 | some (j, want) =>
  match (ops[j]?).bind (·.dst) with
  | some d => match tm.get d with
   | .bool b => some (b == want)
   | .lit (.tuple _) => some false
   | _ => none
  | none => none
def kY (tm : Tm) (d : Option Tmp) (v : V) : Tm :=
 match d with
 | some d => tm.put d v
 | none => tm
def lU {β : Type _} (tm : Tm) (d : Option Tmp) (v : V) (k : Tm -> β) : β :=
 match d with
 | some d => tm.t.setK d v fun t => k ⟨tm.n, t⟩
 | none => k tm
theorem tN {β : Type _} (tm : Tm) (d : Option Tmp) (v : V) (k : Tm -> β) : lU tm d v k = k (kY tm d v) := by
 cases d with
 | none => rfl
 | some d =>
  show (tm.t.setK d v fun t => k ⟨tm.n, t⟩) = _
  rw [Tr.EL]
  rfl
def my {β : Type _} (v : V) (k : V -> β) : β :=
 match v with
 | .int a n => k (.int a n)
 | .bool b => k (.bool b)
 | .str s => k (.str s)
 | .iI => k .iI
 | .ptr b o => k (.ptr b o)
 | .sl b o n f => k (.sl b o n f)
 | .dsl n f cs => k (.dsl n f cs)
 | .dptr cs => k (.dptr cs)
 | .aJ cs => k (.aJ cs)
 | .cu cs => k (.cu cs)
 | .agg cs => k (.agg cs)
 | .tup cs => k (.tup cs)
 | .fn f cs => k (.fn f cs)
 | .box f cs => k (.box f cs)
 | .eptr b o r => k (.eptr b o r)
 | .osl T n o cs => k (.osl T n o cs)
 | .jX => k .jX
 | .lit u => k (.lit u)
 | .b9 => k .b9
theorem qy {β : Type _} (v : V) (k : V -> β) : my v k = k v := by cases v <;> rfl
def forceW (new eo : List Nat) : List Nat :=
 match new with
 | [] => eo
 | x :: xs => eo ++ x :: xs
theorem H4 (new eo : List Nat) : forceW new eo = eo ++ new := by cases new <;> simp [forceW]
inductive Ex where
 | normal
 | exit (id : Nat)
 | ret
section
variable {P : Program} {I : Nat -> Prop} {μ μ' : Mu} {w w' : World} {hp : Hp} {out : Out}
theorem zH : ∀ {ids : List Nat} {b j : Nat}, pos ids b = some j -> ids[j]? = some b
 | [], _, _, h => by cases h
 | x :: t, b, j, h => by
  unfold pos at h
  split at h
  ·rename_i e; cases h; simp [e]
  ·obtain ⟨k, hk, rfl⟩ := Option.map_eq_some_iff.1 h
   simpa using zH hk
theorem lT : ∀ {ids : List Nat} {b j : Nat}, ids.Nodup -> ids[j]? = some b -> pos ids b = some j
 | [], _, _, _, h => by simp at h
 | x :: t, b, j, hn, h => by
  unfold pos
  rw [List.nodup_cons] at hn
  cases j with
  | zero => simp at h; rw [if_pos h]
  | succ j =>
   simp at h
   have hb : b ∈ t := List.mem_of_getElem? h
   rw [if_neg (by rintro rfl; exact hn.1 hb), lT hn.2 h]
   rfl
mutual
theorem Ey {ρ : Nat -> Option Nat} (h : ∀ b b' g, ρ b = some b' -> μ b = some g -> μ' b' = some g) : ∀ (c : V) (v : Value), V.R P I μ w c v -> V.R P I μ' w (V.ren ρ c) v
 | .int _ _, _, k => by simpa [V.R, V.ren] using k
 | .bool _, _, k => by simpa [V.R, V.ren] using k
 | .str _, _, k => by simpa [V.R, V.ren] using k
 | .iI, _, k => by simpa [V.R, V.ren] using k
 | .ptr b off, _, k => by
  simp only [V.ren]
  split
  ·rename_i b' hb
   simp only [V.R] at k ⊢
   obtain ⟨g, hg, k⟩ := k
   exact ⟨g, h _ _ _ hb hg, k⟩
  ·simp [V.R]
 | .sl b off n f, _, k => by
  simp only [V.ren]
  split
  ·rename_i b' hb
   simp only [V.R] at k ⊢
   rcases k with ⟨g, cap, e, N, i, hg, k⟩ | k
   ·exact .inl ⟨g, cap, e, N, i, h _ _ _ hb hg, k⟩
   ·exact .inr k
  ·simp [V.R]
 | .eptr b base rel, _, k => by
  simp only [V.ren]
  split
  ·rename_i b' hb
   simp only [V.R] at k ⊢
   obtain ⟨g, hg, k⟩ := k
   exact ⟨g, h _ _ _ hb hg, k⟩
  ·simp [V.R]
 | .osl _ _ _ _, _, k => by simp [V.R] at k
 | .dsl _ _ _, _, k => by simpa [V.R, V.ren] using k
 | .dptr _, _, k => by simpa [V.R, V.ren] using k
 | .aJ _, _, k => by simp [V.R] at k
 | .cu _, _, k => by simp [V.R] at k
 | .agg cs, _, k => by
  simp only [V.R, V.ren] at k ⊢
  obtain ⟨vs, h1, h2⟩ := k
  exact ⟨vs, h1, tT h cs _ h2⟩
 | .tup cs, _, k => by
  simp only [V.R, V.ren] at k ⊢
  obtain ⟨vs, h1, h2⟩ := k
  exact ⟨vs, h1, tT h cs _ h2⟩
 | .fn _ cs, _, k => by
  simp only [V.R, V.ren] at k ⊢
  obtain ⟨vs, h1, h2⟩ := k
  exact ⟨vs, h1, tT h cs _ h2⟩
 | .box _ cs, _, k => by
  simp only [V.R, V.ren] at k ⊢
  obtain ⟨vs, h1, h2⟩ := k
  exact ⟨vs, h1, tT h cs _ h2⟩
 | .jX, _, k => by simpa [V.R, V.ren] using k
 | .lit _, _, k => by simpa [V.R, V.ren] using k
 | .b9, _, _ => by simp [V.R, V.ren]
theorem tT {ρ : Nat -> Option Nat} (h : ∀ b b' g, ρ b = some b' -> μ b = some g -> μ' b' = some g) : ∀ (cs : List V) (vs : List Value), V.RL P I μ w cs vs -> V.RL P I μ' w (V.renL ρ cs) vs
 | [], _, k => by simpa [V.RL, V.renL] using k
 | c :: cs, _, k => by
  simp only [V.RL, V.renL] at k ⊢
  obtain ⟨u, us, h1, h2, h3⟩ := k
  exact ⟨u, us, h1, Ey h c u h2, tT h cs us h3⟩
end
theorem Y1 (ρ : Nat -> Option Nat) : ∀ cs : List V, (V.renL ρ cs).length = cs.length
 | [] => rfl
 | _ :: cs => by simp [V.renL, Y1 ρ cs]
theorem LR {ρ : Nat -> Option Nat} {x : V} (hx : x.seals = none) : (V.ren ρ x).seals = none := by
 cases x <;> simp only [V.ren] <;> first | rfl | (simp [V.seals] at hx; done) | (split <;> rfl)
theorem LS (ρ : Nat -> Option Nat) (o : Bool) (c : List V) : V.ren ρ (mkS o c) = mkS o c := by cases o <;> rfl
theorem Y3 (ρ : Nat -> Option Nat) (x : V) : (V.ren ρ x).isO = x.isO := by
 cases x <;> simp only [V.ren] <;> first | rfl | (split <;> rfl)
theorem Y2 (ρ : Nat -> Option Nat) {x : V} (h : x.isO = true) : V.ren ρ x = x := by
 cases x <;> first | rfl | (simp [V.isO] at h)
theorem OX.ren {ρ : Nat -> Option Nat} (h : ∀ b b' g, ρ b = some b' -> μ b = some g -> μ' b' = some g) {F : List Nat} {x : V} {u : Value} (k : OX P I μ w F x u) : OX P I μ' w F (V.ren ρ x) u := by
 unfold OX at k ⊢
 rw [Y3]
 cases hx : x.isO with
 | true => rw [hx] at k; rw [Y2 ρ hx]; exact k
 | false => rw [hx] at k; exact ⟨k.1, Ey h _ _ k.2⟩
theorem CR.ren {ρ : Nat -> Option Nat} (h : ∀ b b' g, ρ b = some b' -> μ b = some g -> μ' b' = some g) : ∀ {l : List V} {F : List Nat} {vs : List Value}, CR P I μ w F l vs -> CR P I μ' w F (V.renL ρ l) vs
 | [], F, _, k => by simp only [V.renL]; exact CR.fp.2 (CR.fp.1 k)
 | x :: t, F, vs, k => by
  simp only [V.renL]
  rcases fu x with ⟨o, c, rfl⟩ | hx
  ·obtain ⟨us, cD, F1, F2, rfl, rfl, h1, h2⟩ := CR.fM.1 k
   rw [LS]
   exact CR.fM.2 ⟨us, cD, F1, F2, rfl, rfl, h1, CR.ren h h2⟩
  ·obtain ⟨u, us, F1, F2, rfl, rfl, h1, h2⟩ := (CR.eF hx).1 k
   exact (CR.eF (LR hx)).2 ⟨u, us, F1, F2, rfl, rfl, h1.ren h, CR.ren h h2⟩
theorem yz (ρ : Nat -> Option Nat) : ∀ l : List V, (flat (V.renL ρ l)).length = (flat l).length
 | [] => rfl
 | x :: t => by
  simp only [V.renL]
  rcases fu x with ⟨o, c, rfl⟩ | hx
  ·simp only [LS, gF, List.length_append, yz ρ t]
  ·rw [eW hx, eW (LR hx), List.length_cons, List.length_cons, yz ρ t]
theorem Holds.ren {ρ : Nat -> Option Nat} {b b' : Nat} {blk : bM} (hh : Holds P I μ w b blk) (h : ∀ b b' g, ρ b = some b' -> μ b = some g -> μ' b' = some g) (hb : ∀ g, μ b = some g -> μ' b' = some g) (h0 : μ b = none -> μ' b' = none) (hf : μ'.ft b' = μ.ft b) : Holds P I μ' w b' (V.renL ρ blk.1, blk.2) := by
 rcases hh with ⟨g, cs, fr, h1, h2, h3, h4, ⟨h5, h6⟩, h7, h8⟩ | ⟨h1, h3⟩ | ⟨g, es, ck, c, h1, h2, h3, rfl, h4, h5⟩
 ·refine .inl ⟨g, cs, fr, hb g h1, h2, h3, h4, ⟨?_, ?_⟩, by rw [hf]; exact h7, by rw [hf]; exact h8⟩
  ·show (flat (V.renL ρ blk.1)).length <= _
   rw [yz]; exact h5
  ·show CR P I μ' w (μ'.ft b') (V.renL ρ blk.1) (List.take (flat (V.renL ρ blk.1)).length _)
   rw [yz, hf]; exact h6.ren h
 ·exact .inr (.inl ⟨h0 h1, by rw [hf]; exact h3⟩)
 ·exact .inr (.inr ⟨g, es, ck, c, hb g h1, h2, h3, by simp only [V.renL, V.ren], h4, by rw [hf]; exact h5⟩)
theorem LQ {ρ : Nat -> Option Nat} {x : Option bM} {blk : bM} (h : j1 ρ x = some blk) : ∃ bW, x = some bW /\ blk = (V.renL ρ bW.1, bW.2) := by
 unfold j1 at h
 obtain ⟨b, hb, rfl⟩ := Option.map_eq_some_iff.1 h
 exact ⟨b, hb, rfl⟩
def dt (hp : Hp) (b : Nat) : Prop := ∃ blk, hp[b]? = some (some blk)
theorem we (hp : Hp) : ∀ (n : Nat) (todo seen : List Nat), seen.Nodup -> (∀ b ∈ seen, dt hp b) -> (reach hp n todo seen).Nodup /\ (∀ b ∈ reach hp n todo seen, dt hp b)
 | 0, _, seen, h1, h2 => ⟨h1, h2⟩
 | n + 1, [], seen, h1, h2 => ⟨h1, h2⟩
 | n + 1, b :: t, seen, h1, h2 => by
  unfold reach
  split
  ·exact we hp n t seen h1 h2
  ·rename_i hc
   have hb : b ∉ seen := by simpa using hc
   split
   ·rename_i blk bu
    refine we hp n _ _ ?_ ?_
    ·rw [List.nodup_append]
     refine ⟨h1, by simp, fun a ha c hc e => ?_⟩
     simp at hc; subst hc; subst e; exact hb ha
    ·intro c hc
     rcases List.mem_append.1 hc with hc | hc
     ·exact h2 c hc
     ·simp at hc; subst hc; exact ⟨blk, bu⟩
   ·exact we hp n t seen h1 h2
structure xM (hp : Hp) (r : aj) : Prop where
 len : hp.length <= r.hp.length
 frame : ∀ b, b < hp.length -> b ∉ r.wr -> r.hp[b]? = hp[b]?
 AE : ∀ b ∈ r.wr, b < hp.length
 alive : ∀ b, b < hp.length -> dt r.hp b -> dt hp b
def ao (P : Program) (f : FuncId) (vs : List V) (hp : Hp) (r : aj) : Prop :=
 xM hp r /\ ∀ (I : Nat -> Prop) (w : World) (μ : Mu) (ch : Array Value), V.RL P I μ w vs ch.toList -> cK P I μ w hp (List.range hp.length) r.hp.length -> (∀ b g, μ b = some g -> b < hp.length) ->
  Calls P f ch w fun e w' => ∃ val μ' I', e = .returned val /\ V.R P I' μ' w' r.v val /\ Good P I I' μ μ' w w' hp r.hp (List.range hp.length) r.wr
def jf (P : Program) (callF : fG) : Prop := ∀ f vs hp r, callF f vs hp = some r -> ao P f vs hp r
theorem NQ {α β : Type} (l : List α) (f : α × Nat -> β) (b : Nat) : ((l.zipIdx).map f)[b]? = (l[b]?).map fun x => f (x, b) := by
 simp [List.getElem?_map, List.getElem?_zipIdx]
 cases l[b]? <;> simp
theorem call_sound {callF : fG} (hc : jf P callF) {f : FuncId} {vs : List V} {ch : Array Value} (h : evCall callF hp f vs = some out) (hv : V.RL P I μ w vs ch.toList) (pre : cK P I μ w hp out.acc out.hp.length) :
  Calls P f ch w fun e w' => ∃ val μ' I', e = .returned val /\ V.R P I' μ' w' out.v val /\ Good P I I' μ μ' w w' hp out.hp out.acc out.wr := by
 unfold evCall at h
 simp only at h
 generalize lI : reach hp 100000 (V.refsL vs) [] = ids at h
 obtain ⟨eg, du⟩ := we hp 100000 (V.refsL vs) [] (by simp) (by simp)
 rw [lI] at eg du
 split at h
 case h_2 => cases h
 case h_1 r hr =>
 cases h
 obtain ⟨ht, eP⟩ := hc _ _ _ _ hr
 generalize b5 : (ids.map fun b => j1 (pos ids) (hp.getD b none)) = sub at hr ht eP
 have ph : sub.length = ids.length := by rw [<- b5]; simp
 have bO : ∀ b ∈ ids, b < hp.length := fun b hb => by obtain ⟨blk, h⟩ := du b hb; exact eV h
 let μc : Mu := ⟨fun j => match ids[j]? with
  | some b => μ b
  | none => none, fun j => match ids[j]? with
  | some b => μ.ft b
  | none => []⟩
 have tE : ∀ (j b : Nat), ids[j]? = some b -> μc j = μ b := by intro j b h; simp [μc, h]
 have Dx : ∀ (j b : Nat), ids[j]? = some b -> μc.ft j = μ.ft b := by intro j b h; simp [μc, h]
 have Dy : ∀ (j b : Nat), ids[j]? = some b -> ∀ k, μc.own j k ↔ μ.own b k := by intro j b h k; simp [Mu.own, tE j b h, Dx j b h]
 have Jn : ∀ j, ids.length <= j -> μc j = none := by intro j h; simp [μc, List.getElem?_eq_none h]
 have hρ : ∀ b b' g, pos ids b = some b' -> μ b = some g -> μc b' = some g := by
  intro b b' g hb hg; rw [tE b' b (zH hb)]; exact hg
 have Dn : ∀ (j : Nat) (blk : bM), sub[j]? = some (some blk) -> ∃ b bW, ids[j]? = some b /\ hp[b]? = some (some bW) /\ blk = (V.renL (pos ids) bW.1, bW.2) := by
  intro j blk hj
  rw [<- b5, List.getElem?_map] at hj
  obtain ⟨b, hb, hj⟩ := Option.map_eq_some_iff.1 hj
  obtain ⟨bW, eY⟩ := du b (List.mem_of_getElem? hb)
  simp only [List.getD_eq_getElem?_getD, eY, Option.getD_some, j1, Option.map_some] at hj
  exact ⟨b, bW, hb, eY, (by cases hj; rfl)⟩
 have SP : cK P I μc w sub (List.range sub.length) r.hp.length := by
  refine ⟨pre.dj, fun j hj blk bu => ?_, fun j hj k hk b1 b2 g bp h1 h2 g1 g2 => ?_, fun j hj _ => Jn j (by omega)⟩
  ·obtain ⟨b, bW, hb, eY, rfl⟩ := Dn j blk bu
   exact (pre.holds b (List.mem_of_getElem? hb) bW eY).ren hρ (fun g hg => by rw [tE j b hb]; exact hg) (fun h => by rw [tE j b hb]; exact h) (Dx j b hb)
  ·obtain ⟨b, c0, hb, eY, _⟩ := Dn j b1 h1
   obtain ⟨c, c1, hc, jn, _⟩ := Dn k b2 h2
   refine pre.inj b (List.mem_of_getElem? hb) c (List.mem_of_getElem? hc) _ _ g (fun e => bp ?_) eY jn ((Dy j b hb g).1 g1) ((Dy k c hc g).1 g2)
   subst e
   have h1 := lT eg hb
   rw [lT eg hc] at h1
   cases h1; rfl
 have Ix : ∀ b g, μc b = some g -> b < sub.length := by
  intro j g hg
  rcases Nat.lt_or_ge j sub.length with h | h
  ·exact h
  ·rw [Jn j (by omega)] at hg; cases hg
 refine (eP I w μc ch (tT hρ _ _ hv) SP Ix).mono ?_
 rintro e w' ⟨val, je, I', rfl, hR, hG⟩
 have zf : (hp.length + (r.hp.length - ids.length)) = ((hp.zipIdx.map fun x => if (r.wr.filterMap fun j => ids[j]?).contains x.2 then j1 (kL ids hp.length) (((pos ids x.2).bind fun j => r.hp[j]?).getD none) else x.1) ++ (r.hp.drop ids.length).map (j1 (kL ids hp.length))).length := by simp
 let μ' : Mu := ⟨fun b => if b < hp.length then μ b else if b < hp.length + (r.hp.length - ids.length) then je (ids.length + (b - hp.length)) else μ b,
  fun b => if b < hp.length then match pos ids b with
   | some j => je.ft j
   | none => μ.ft b
  else if b < hp.length + (r.hp.length - ids.length) then je.ft (ids.length + (b - hp.length)) else μ.ft b⟩
 have qZ : ∀ b, b < hp.length -> μ' b = μ b := fun b hb => by simp [μ', hb]
 have ak3 : ids.length <= r.hp.length := by have := ht.len; omega
 have Jm : ∀ k, ids.length + k < r.hp.length -> μ' (hp.length + k) = je (ids.length + k) /\ μ'.ft (hp.length + k) = je.ft (ids.length + k) := fun k hk => by
  have h1 : ¬ hp.length + k < hp.length := by omega
  have h2 : hp.length + k < hp.length + (r.hp.length - ids.length) := by omega
  simp only [μ', h1, h2, if_true, if_false]
  rw [show ids.length + (hp.length + k - hp.length) = ids.length + k by omega]
  exact ⟨rfl, rfl⟩
 have IF : ∀ (j b : Nat), ids[j]? = some b -> μ'.ft b = je.ft j := by
  intro j b hj
  have hb := bO b (List.mem_of_getElem? hj)
  simp only [μ', hb, if_true, lT eg hj]
 have R3 : ∀ b, b < hp.length -> pos ids b = none -> μ'.ft b = μ.ft b := by
  intro b hb hp
  simp only [μ', hb, if_true, hp]
 have RQ : ∀ j g, je j = some g -> j < r.hp.length := by
  intro j g hg
  rcases hG.cz j g hg with h | ⟨_, h⟩
  ·have := Ix j g h; have := ht.len; omega
  ·exact h
 have hold : ∀ (j b : Nat), ids[j]? = some b -> ∀ g, je j = some g -> μ b = some g := by
  intro j b hj g hg
  have fW : j < ids.length := (List.getElem?_eq_some_iff.1 hj).1
  rcases hG.cz j g hg with h | ⟨h, _⟩
  ·rwa [tE j b hj] at h
  ·omega
 have hle : df μ μ' := by
  intro b g hb
  rcases Nat.lt_or_ge b hp.length with h | h
  ·rw [qZ b h]; exact hb
  ·rcases Nat.lt_or_ge b (hp.length + (r.hp.length - ids.length)) with h2 | h2
   ·rw [pre.fresh b h (by rw [<- zf]; exact h2)] at hb; cases hb
   ·have h1 : ¬ b < hp.length := by omega
    have h3 : ¬ b < hp.length + (r.hp.length - ids.length) := by omega
    simp only [μ', h1, h3, if_false]; exact hb
 have td : ∀ j b' g, kL ids hp.length j = some b' -> je j = some g -> μ' b' = some g := by
  intro j b' g hj hg
  unfold kL at hj
  split at hj
  ·have := hold j b' hj g hg
   rw [qZ b' (bO b' (List.mem_of_getElem? hj))]; exact this
  ·rename_i fW
   cases hj
   have := RQ j g hg
   rw [(Jm _ (by omega)).1]
   rw [show ids.length + (j - ids.length) = j by omega]; exact hg
 have ga : ∀ j, j ∈ r.wr -> ∃ b, ids[j]? = some b /\ b ∈ r.wr.filterMap (fun j => ids[j]?) /\ (∃ blk, hp[b]? = some (some blk)) /\ ∀ k, μc.own j k ↔ μ.own b k := by
  intro j hj
  have fW := ht.AE j hj
  have lJ : ids[j]? = some (ids[j]'(by omega)) := List.getElem?_eq_getElem (by omega)
  generalize ids[j]'(by omega) = b at lJ
  exact ⟨b, lJ, List.mem_filterMap.2 ⟨j, hj, lJ⟩, du b (List.mem_of_getElem? lJ), Dy j b lJ⟩
 have hX : cy I w w' (fun k => ∃ b ∈ r.wr.filterMap (fun j => ids[j]?), μ.own b k) := hG.cr.mono fun k hk => by
  obtain ⟨j, hj, hk⟩ := hk
  obtain ⟨b, _, eN, _, Ry⟩ := ga j hj
  exact ⟨b, eN, (Ry k).1 hk⟩
 generalize R6 : ((hp.zipIdx.map fun x => if (r.wr.filterMap fun j => ids[j]?).contains x.2 then j1 (kL ids hp.length) (((pos ids x.2).bind fun j => r.hp[j]?).getD none) else x.1) ++ (r.hp.drop ids.length).map (j1 (kL ids hp.length))) = ez at zf pre ⊢
 have hA : ∀ b blk, ez[b]? = some (some blk) -> (b < hp.length /\ b ∉ r.wr.filterMap (fun j => ids[j]?) /\ hp[b]? = some (some blk)) \/
   (∃ j bW, r.hp[j]? = some (some bW) /\ blk = (V.renL (kL ids hp.length) bW.1, bW.2) /\ (∀ g, μ' b = some g ↔ je j = some g) /\ μ'.ft b = je.ft j /\ ((b < hp.length /\ ids[j]? = some b /\ j ∈ r.wr) \/ (hp.length <= b /\ j = ids.length + (b - hp.length)))) := by
  intro b blk hb
  rw [<- R6, List.getElem?_append] at hb
  simp only [List.length_map, List.length_zipIdx] at hb
  split at hb
  ·rename_i bI
   rw [NQ] at hb
   obtain ⟨x, hx, hb⟩ := Option.map_eq_some_iff.1 hb
   simp only at hb
   split at hb
   ·rename_i hw
    have hw' : b ∈ r.wr.filterMap fun j => ids[j]? := by simpa using hw
    obtain ⟨j, hj, lJ⟩ := List.mem_filterMap.1 hw'
    rw [lT eg lJ] at hb
    obtain ⟨bW, h0, rfl⟩ := LQ hb
    have h1 : r.hp[j]? = some (some bW) := by
     simp only [Option.bind_some] at h0
     cases Jb : r.hp[j]? with
     | none => rw [Jb] at h0; cases h0
     | some y => rw [Jb] at h0; simp at h0; rw [h0]
    refine .inr ⟨j, bW, h1, rfl, fun g => ⟨fun hg => ?_, fun hg => ?_⟩, IF j b lJ, .inl ⟨bI, lJ, hj⟩⟩
    ·rw [qZ b bI, <- tE j b lJ] at hg; exact hG.le j g hg
    ·rw [qZ b bI]; exact hold j b lJ g hg
   ·rename_i hw
    have hw' : b ∉ r.wr.filterMap fun j => ids[j]? := by simpa using hw
    exact .inl ⟨bI, hw', by rw [hx, hb]⟩
  ·rename_i bI
   rw [List.getElem?_map, List.getElem?_drop] at hb
   obtain ⟨x, hx, hb⟩ := Option.map_eq_some_iff.1 hb
   obtain ⟨bW, rfl, rfl⟩ := LQ hb
   have Sm := (List.getElem?_eq_some_iff.1 hx).1
   have e := Jm (b - hp.length) Sm
   rw [show hp.length + (b - hp.length) = b by omega] at e
   exact .inr ⟨_, bW, hx, rfl, fun g => by rw [e.1], e.2, .inr ⟨by omega, rfl⟩⟩
 have Sb : ∀ j, j < ids.length -> j ∈ List.range sub.length := fun j hj => by simp; omega
 have cL : ∀ (b j : Nat), ((b < hp.length /\ ids[j]? = some b /\ j ∈ r.wr) \/ (hp.length <= b /\ j = ids.length + (b - hp.length))) -> (j ∈ List.range sub.length \/ sub.length <= j) := by
  rintro b j (⟨_, h, _⟩ | ⟨_, h⟩)
  ·exact .inl (Sb j (List.getElem?_eq_some_iff.1 h).1)
  ·exact .inr (by omega)
 have IK : ∀ (b j : Nat), ((b < hp.length /\ ids[j]? = some b /\ j ∈ r.wr) \/ (hp.length <= b /\ j = ids.length + (b - hp.length))) -> (sub.length <= j \/ j ∈ r.wr) := by
  rintro b j (⟨_, _, h⟩ | ⟨_, h⟩)
  ·exact .inr h
  ·exact .inl (by omega)
 have fo : ∀ (b j k : Nat), (∀ g, μ' b = some g ↔ je j = some g) -> μ'.ft b = je.ft j -> (μ'.own b k ↔ je.own j k) := by
  intro b j k h1 h2; simp only [Mu.own, h1, h2]
 have CS : ∀ b, b < hp.length -> b ∉ r.wr.filterMap (fun j => ids[j]?) -> μ'.ft b = μ.ft b := by
  intro b hb eN
  cases hp : pos ids b with
  | none => exact R3 b hb hp
  | some j =>
   have hj := zH hp
   have fW : j < ids.length := (List.getElem?_eq_some_iff.1 hj).1
   rw [IF j b hj, hG.cT j (fun Sc => eN (List.mem_filterMap.2 ⟨j, Sc, hj⟩)) (by omega), Dx j b hj]
 have Df : ∀ b k, b < hp.length -> b ∉ r.wr.filterMap (fun j => ids[j]?) -> μ'.own b k -> μ.own b k := by
  intro b k hb eN hk
  rcases hk with hk | hk
  ·rw [qZ b hb] at hk; exact .inl hk
  ·rw [CS b hb eN] at hk; exact .inr hk
 have SC : ∀ b blk g, b ∈ ids -> b ∉ r.wr.filterMap (fun j => ids[j]?) -> hp[b]? = some (some blk) -> μ.own b g -> ¬ I' g := by
  intro b blk g gk eN eY hg hI
  have hh := pre.holds b gk blk eY
  rcases hG.ei g hI with h | ⟨h, _⟩ | ⟨c, cf, bZ, _⟩
  ·exact hh.ku hg h
  ·have := hh.lt hg; omega
  ·obtain ⟨d, RN, mE, ⟨_, lF⟩, oZ⟩ := ga c cf
   exact pre.inj b gk d (List.mem_of_getElem? RN) _ _ g (by rintro rfl; exact eN mE) eY lF hg ((oZ g).1 bZ)
 refine ⟨val, μ', I', rfl, Ey td _ _ hR, ⟨hG.dq, fun k hk => ?_, hX, hle, fun b g hb => ?_, fun b eN km => ?_, fun b hb blk bu => ?_, fun b hb blk bu g hg => ?_, fun b c b1 b2 g bp hb hc h1 h2 g1 g2 => ?_⟩⟩
 ·rcases hG.ei k hk with h | h | ⟨c, cf, bZ, _⟩
  ·exact .inl h
  ·exact .inr (.inl h)
  ·obtain ⟨d, _, mE, lF, oZ⟩ := ga c cf
   exact .inr (.inr ⟨d, mE, (oZ k).1 bZ, lF⟩)
 ·rcases Nat.lt_or_ge b hp.length with h | h
  ·rw [qZ b h] at hb; exact .inl hb
  ·rcases Nat.lt_or_ge b (hp.length + (r.hp.length - ids.length)) with h2 | h2
   ·exact .inr ⟨h, by rw [<- zf]; exact h2⟩
   ·have h1 : ¬ b < hp.length := by omega
    have h3 : ¬ b < hp.length + (r.hp.length - ids.length) := by omega
    simp only [μ', h1, h3, if_false] at hb; exact .inl hb
 ·rcases Nat.lt_or_ge b hp.length with h | h
  ·exact CS b h eN
  ·have h1 : ¬ b < hp.length := by omega
   have h3 : ¬ b < hp.length + (r.hp.length - ids.length) := by rw [zf]; intro h4; exact km ⟨h, h4⟩
   simp only [μ', h1, h3, if_false]
 ·rcases hA b blk bu with ⟨bI, eZ, h0⟩ | ⟨j, bW, hj, rfl, hm, hf, hw⟩
  ·have gk : b ∈ ids := by rcases hb with hb | hb; exact hb; omega
   refine (pre.holds b gk blk h0).keep hX hG.dq hle (fun h => by rw [qZ b bI]; exact h) (CS b bI eZ) (fun g hg hx => ?_) (fun g hg => SC b blk g gk eZ h0 hg)
   obtain ⟨c, hc, bZ⟩ := hx
   obtain ⟨j, _, R9⟩ := List.mem_filterMap.1 hc
   have gV : c ∈ ids := List.mem_of_getElem? R9
   obtain ⟨bG, cF⟩ := du c gV
   exact pre.inj b gk c gV _ _ g (by rintro rfl; exact eZ hc) h0 cF hg bZ
  ·exact (hG.holds j (cL b j hw) bW hj).ren td (fun g hg => (hm g).2 hg) (fun h => by
    cases bX : μ' b with
    | none => rfl
    | some g => rw [(hm g).1 bX] at h; cases h) hf
 ·rcases hA b blk bu with ⟨bI, eZ, _⟩ | ⟨j, bW, hj, rfl, hm, hf, hw⟩
  ·rcases hb with hb | hb
   ·omega
   ·exact absurd hb eZ
  ·rcases hG.dI j (IK b j hw) bW hj g ((fo b j g hm hf).1 hg) with h | ⟨c, cf, bZ, _⟩
   ·exact .inl h
   ·obtain ⟨d, _, mE, lF, oZ⟩ := ga c cf
    exact .inr ⟨d, mE, (oZ g).1 bZ, lF⟩
 ·have one : ∀ b c b1 b2, b ≠ c -> (b ∈ ids \/ hp.length <= b) -> b < hp.length -> b ∉ r.wr.filterMap (fun j => ids[j]?) -> hp[b]? = some (some b1) -> (∃ j bj, r.hp[j]? = some (some bj) /\ b2 = (V.renL (kL ids hp.length) bj.1, bj.2) /\ (∀ g, μ' c = some g ↔ je j = some g) /\ μ'.ft c = je.ft j /\ ((c < hp.length /\ ids[j]? = some c /\ j ∈ r.wr) \/ (hp.length <= c /\ j = ids.length + (c - hp.length)))) -> μ'.own b g -> μ'.own c g -> False := by
   rintro b c b1 b2 bp hb bI eN eY ⟨j, bj, hj, _, hm, hf, hw⟩ g1 g2
   have gk : b ∈ ids := by rcases hb with hb | hb; exact hb; omega
   have g1' := Df b g bI eN g1
   rcases hG.dI j (IK c j hw) bj hj g ((fo c j g hm hf).1 g2) with h | ⟨d, mE, lG, _⟩
   ·have := (pre.holds b gk _ eY).lt g1'; omega
   ·obtain ⟨q, SS, SV, ⟨_, SQ⟩, SU⟩ := ga d mE
    exact pre.inj b gk q (List.mem_of_getElem? SS) _ _ g (by rintro rfl; exact eN SV) eY SQ g1' ((SU g).1 lG)
  rcases hA b b1 h1 with ⟨bI, eN, eY⟩ | dW
  ·rcases hA c b2 h2 with ⟨bQ, cf, jn⟩ | mD
   ·have gk : b ∈ ids := by rcases hb with hb | hb; exact hb; omega
    have gV : c ∈ ids := by rcases hc with hc | hc; exact hc; omega
    exact pre.inj b gk c gV _ _ g bp eY jn (Df b g bI eN g1) (Df c g bQ cf g2)
   ·exact one b c b1 b2 bp hb bI eN eY mD g1 g2
  ·rcases hA c b2 h2 with ⟨bQ, cf, jn⟩ | mD
   ·exact one c b b2 b1 (Ne.symm bp) hc bQ cf jn dW g2 g1
   ·obtain ⟨j, bj, hj, _, C5, Iz, Jj⟩ := dW
    obtain ⟨k, bk, hk, _, Sn, RY, lM⟩ := mD
    refine hG.inj j k _ _ g (fun e => bp ?_) (cL b j Jj) (cL c k lM) hj hk ((fo b j g C5 Iz).1 g1) ((fo c k g Sn RY).1 g2)
    subst e
    rcases Jj with ⟨_, h3, _⟩ | ⟨_, h3⟩ <;> rcases lM with ⟨_, h4, _⟩ | ⟨_, h4⟩
    ·rw [h3] at h4; cases h4; rfl
    ·have := (List.getElem?_eq_some_iff.1 h3).1; omega
    ·have := (List.getElem?_eq_some_iff.1 h4).1; omega
    ·omega
theorem GF {callF : fG} (hc : jf P callF) {f : FuncId} {vs : List V} (h : evCall callF hp f vs = some out) : Tidy hp out.hp out.acc out.wr := by
 unfold evCall at h
 simp only at h
 generalize lI : reach hp 100000 (V.refsL vs) [] = ids at h
 obtain ⟨eg, du⟩ := we hp 100000 (V.refsL vs) [] (by simp) (by simp)
 rw [lI] at eg du
 split at h
 case h_2 => cases h
 case h_1 r hr =>
 cases h
 obtain ⟨ht, _⟩ := hc _ _ _ _ hr
 have bO : ∀ b ∈ ids, b < hp.length := fun b hb => by obtain ⟨blk, h⟩ := du b hb; exact eV h
 refine ⟨by simp, fun b hb hn => ?_, fun b hb => ?_, bO, fun b hb => ?_⟩
 ·rw [List.getElem?_append_left (by simpa using hb), NQ, List.getElem?_eq_getElem hb]
  simp only [Option.map_some]
  rw [if_neg (by simpa using hn)]
 ·obtain ⟨j, _, hj⟩ := List.mem_filterMap.1 hb; exact List.mem_of_getElem? hj
 ·obtain ⟨j, _, hj⟩ := List.mem_filterMap.1 hb; exact du b (List.mem_of_getElem? hj)
end
section
variable {P : Program} {I : Nat -> Prop} {μ μ' : Mu} {w w' : World} {hp : Hp} {out : Out}
def dA (P : Program) : Prop := ∀ (f : FuncId) (fn : Func), P.funcs[f]? = some fn -> fn.name ≠ "runtime.NumGoroutine"
def kE (P : Program) (callF : fG) : Prop := ∀ f vs hp r, callF f vs hp = some r -> ∃ fn, P.funcs[f]? = some fn /\ fn.body.isSome = true
theorem X2 {callF : fG} (hn : dA P) (hb : kE P callF) (hc : jf P callF) {o : Oper} {e : Operand -> V} {a : Act} {K : Act -> World -> Prop} {Q : Exit -> Act -> World -> Prop} (h : evOp P callF e hp o.op = some out)
  (bR : ∀ x ∈ o.op.operands, V.R P I μ w (e x) (a.eval x)) (pre : cK P I μ w hp out.acc out.hp.length)
  (hK : ∀ val w' μ' I', V.R P I' μ' w' out.v val -> Good P I I' μ μ' w w' hp out.hp out.acc out.wr -> K (a.put o.dst val) w') : o.wp P a w K Q := by
 unfold evOp at h
 split at h
 ·rename_i f args ts cp
  rw [cp] at bR
  split at h
  case h_2 => cases h
  case h_1 g cap hf =>
  have vr := bR f (by simp [Op.operands, Call.operands])
  rw [hf] at vr
  simp only [V.R] at vr
  obtain ⟨vs, vr, CO⟩ := vr
  have eX : V.RL P I μ w (args.toList.map e ++ cap) ((args.map a.eval) ++ vs).toList := by
   rw [Array.toList_append, Array.toList_map]
   exact (uH fun x hx => bR x (by simp only [Op.operands, Call.operands]; exact Array.mem_append.2 (.inr (by simpa using hx)))).append CO
  have tf : ∃ fn, P.funcs[g]? = some fn /\ fn.body.isSome = true := by
   unfold evCall at h
   simp only at h
   split at h
   ·rename_i r hr; exact hb _ _ _ _ hr
   ·cases h
  obtain ⟨fn, gW, CM⟩ := tf
  have nG : (execOp a.eval o).run P w = .ok (.enter g ((args.map a.eval) ++ vs)) w := by
   have Ru : fn.body.isNone = false := by cases hq : fn.body <;> simp_all
   have Sz : (fn.name == "runtime.NumGoroutine") = false := by simpa using hn g fn gW
   simp only [execOp, cp, resolve, vr, Deferred.ofValue, Sem.run_bind, Sem.run_pure, Result.andThen_ok, invoke, callFunc, run_program, gW, Sz, Ru, Bool.false_eq_true, if_false, Array.empty_append]
  unfold Oper.wp
  rw [nG]
  refine (call_sound hc h eX pre).mono ?_
  rintro e' w' ⟨val, μ', I', rfl, hR, hG⟩
  exact hK val w' μ' I' hR hG
 ·rename_i x name args ts cp
  rw [cp] at bR
  split at h
  case h_2 => cases h
  case h_1 t v hx =>
  split at h
  case h_2 => cases h
  case h_1 g Su =>
  have vR := bR x (by simp [Op.operands, Call.operands])
  rw [hx] at vR
  simp only [V.R, V.RL] at vR
  obtain ⟨vs, vR, u, us, gH, Th, rfl⟩ := vR
  obtain rfl : vs = #[u] := by cases vs; simp_all
  have eX : V.RL P I μ w (v :: args.toList.map e) (#[u] ++ args.map a.eval).toList := by
   rw [Array.toList_append, Array.toList_map]
   simp only [V.RL, List.cons_append, List.nil_append]
   exact ⟨u, _, rfl, Th, uH fun y hy => bR y (by simp only [Op.operands, Call.operands]; exact Array.mem_append.2 (.inr (by simpa using hy)))⟩
  have tf : ∃ fn, P.funcs[g]? = some fn /\ fn.body.isSome = true := by
   unfold evCall at h
   simp only at h
   split at h
   ·rename_i r hr; exact hb _ _ _ _ hr
   ·cases h
  have nG : (execOp a.eval o).run P w = .ok (.enter g (#[u] ++ args.map a.eval)) w := by
   have hm := V1 Su u (args.map a.eval) w
   have e0 : (#[Value.iface t u] ++ args.map a.eval)[0]? = some (.iface t u) := by
    rw [Array.getElem?_append]; simp
   have e1 : (#[Value.iface t u] ++ args.map a.eval).extract 1 (#[Value.iface t u] ++ args.map a.eval).size = args.map a.eval := by
    apply Array.ext'
    simp only [Array.toList_extract, List.extract_eq_take_drop, Array.toList_append, Array.toList_map, List.cons_append, List.nil_append, List.drop_succ_cons, List.drop_zero]
    rw [List.take_of_length_le (by simp)]
   have e2 : BK.mk (.iface t) #[u] = .iface t u := rfl
   simp only [execOp, cp, resolve, vR, e2, Sem.run_bind, Sem.run_pure, Result.andThen_ok, invoke, e0, e1]
   exact hm
  unfold Oper.wp
  rw [nG]
  refine (call_sound hc h eX pre).mono ?_
  rintro e' w' ⟨val, μ', I', rfl, hR, hG⟩
  exact hK val w' μ' I' hR hG
 ·split at h
  ·rename_i gq
   cases h
   obtain ⟨nx, val, w', μ', h1, h2, h3, h4⟩ := Yv gq bR pre
   unfold Oper.wp
   rw [h1]
   rcases h2 with rfl | ⟨rfl, rfl⟩
   ·exact hK _ _ _ _ h3 h4
   ·exact hK _ _ _ _ h3 h4
  ·obtain ⟨val, w', μ', h1, h3, h4⟩ := VV (fun _ => rfl) h bR pre
   unfold Oper.wp
   rw [h1]
   exact hK _ _ _ _ h3 h4
theorem X1 {callF : fG} (hc : jf P callF) {o : Op} {e : Operand -> V} (h : evOp P callF e hp o = some out) : Tidy hp out.hp out.acc out.wr := by
 unfold evOp at h
 split at h
 ·split at h
  ·exact GF hc h
  ·cases h
 ·split at h
  ·split at h
   ·exact GF hc h
   ·cases h
  ·cases h
 ·split at h
  ·rename_i gq; cases h; exact Yw gq
  ·exact VW h
structure fH (P : Program) (e : Operand -> V) (hp : Hp) (o : Op) (out : Out) : Prop where
 tidy : Tidy hp out.hp out.acc out.wr
 wp : ∀ {I : Nat -> Prop} {μ : Mu} {w : World} {oper : Oper} {a : Act} {K : Act -> World -> Prop} {Q : Exit -> Act -> World -> Prop}, oper.op = o ->
  (∀ x ∈ o.operands, V.R P I μ w (e x) (a.eval x)) -> cK P I μ w hp out.acc out.hp.length ->
  (∀ val w' μ' I', V.R P I' μ' w' out.v val -> Good P I I' μ μ' w w' hp out.hp out.acc out.wr -> K (a.put oper.dst val) w') -> oper.wp P a w K Q
theorem uU {callF : fG} (hn : dA P) (hb : kE P callF) (hc : jf P callF) {o : Op} {e : Operand -> V} {hp : Hp} {out : Out} (h : evOp P callF e hp o = some out) : fH P e hp o out :=
 ⟨X1 hc h, fun ho bR pre hK => X2 hn hb hc (by rw [ho]; exact h) (by rw [ho]; exact bR) pre hK⟩
def lw {α : Type} (fD : Nat -> Bool) (can : Nat -> α) (L : Nat -> Bool) : Nat -> α
 | 0 => can 0
 | n + 1 => if L n && fD n then can (n + 1) else lw fD can L n
theorem vT {α : Type} {fD : Nat -> Bool} {can : Nat -> α} {L : Nat -> Bool} : ∀ {j : Nat}, (∀ i, i < j -> fD i = true -> L i = true) -> (∀ i, i < j -> fD i = false -> can (i + 1) = can i) -> lw fD can L j = can j
 | 0, _, _ => rfl
 | j + 1, h, k => by
  unfold lw
  cases ht : fD j with
  | true => simp [h j af ht]
  | false =>
   simp only [Bool.and_false, Bool.false_eq_true, if_false, k j af ht]
   exact vT (fun i hi => h i af) (fun i hi => k i af)
theorem zn {α : Type} {fD : Nat -> Bool} {can : Nat -> α} {L : Nat -> Bool} {j : Nat} : ∀ {n : Nat}, j <= n -> (∀ i, j <= i -> i < n -> fD i = true -> L i = false) -> lw fD can L n = lw fD can L j
 | 0, h, _ => by rw [show j = 0 by omega]
 | n + 1, h, k => by
  by_cases e : j = n + 1
  ·rw [e]
  ·rw [lw]
   have : (L n && fD n) = false := by
    cases ht : fD n with
    | true => simp [k n (by omega) (by omega) ht]
    | false => simp
   rw [this, if_neg (by simp), zn (by omega) fun i h1 h2 => k i h1 (by omega)]
def fQ (L : Nat -> Bool) (j : Nat) : Nat -> Bool := fun i => i == j || L i
theorem DP {α : Type} {fD : Nat -> Bool} {can : Nat -> α} {L : Nat -> Bool} {j : Nat} (h : fD j = false) : ∀ n, lw fD can (fQ L j) n = lw fD can L n
 | 0 => rfl
 | n + 1 => by
  unfold lw
  rw [DP h n]
  by_cases e : n = j
  ·subst e; simp [h]
  ·simp [fQ, e]
theorem JR {α : Type} {fD : Nat -> Bool} {can : Nat -> α} {L : Nat -> Bool} {j n : Nat} (hj : j < n) (h : fD j = true) (k : ∀ i, j < i -> i < n -> fD i = true -> L i = false) : lw fD can (fQ L j) n = can (j + 1) := by
 rw [zn (j := j + 1) af (fun i h1 h2 h3 => by simp only [fQ]; rw [k i af h2 h3]; simp; omega)]
 unfold lw
 simp [fQ, h]
end
def oe (P : Program) (ops : Array Oper) (s : St) (o : Oper) (s' : St) (acc wr : List Nat) : Prop :=
 (wantedV ops s.tm o = some true /\ ∃ out, fH P (evalV s.tm) s.hp o.op out /\ s' = ⟨kY s.tm o.dst out.v, out.hp, s.wr ++ out.wr⟩ /\ acc = out.acc /\ wr = out.wr) \/
 (wantedV ops s.tm o = some false /\ s' = ⟨kY s.tm o.dst (.lit undef), s.hp, s.wr⟩ /\ acc = [] /\ wr = [])
structure jh (P : Program) (ops : Array Oper) (sn : Nat -> St) (ac wr : Nat -> List Nat) : Prop where
 step : ∀ i o, ops[i]? = some o -> oe P ops (sn i) o (sn (i + 1)) (ac i) (wr i)
section
variable {P : Program} {ops : Array Oper} {sn : Nat -> St} {ac wr : Nat -> List Nat}
def fE (sn : Nat -> St) (wr : Nat -> List Nat) (b i : Nat) : Bool := (wr i).contains b || (decide ((sn i).hp.length <= b) && decide (b < (sn (i + 1)).hp.length))
def lb (ops : Array Oper) (t i : Nat) : Bool := ((ops[i]?).bind (·.dst)) == some t
theorem M0 {s s' : St} {o : Oper} {acc FG : List Nat} (h : oe P ops s o s' acc FG) :
  Tidy s.hp s'.hp acc FG /\ s'.wr = s.wr ++ FG /\ ∃ v, s'.tm = kY s.tm o.dst v := by
 rcases h with ⟨_, out, ho, rfl, rfl, rfl⟩ | ⟨_, rfl, rfl, rfl⟩
 ·exact ⟨ho.tidy, rfl, _, rfl⟩
 ·exact ⟨.same _ (by simp), by simp, _, rfl⟩
theorem jh.parts (hr : jh P ops sn ac wr) (i : Nat) (o : Oper) (ho : ops[i]? = some o) : Tidy (sn i).hp (sn (i + 1)).hp (ac i) (wr i) /\ (sn (i + 1)).wr = (sn i).wr ++ wr i /\ ∃ v, (sn (i + 1)).tm = kY (sn i).tm o.dst v :=
 M0 (hr.step i o ho)
theorem Lz {tm : Tm} {d : Option Tmp} {v : V} {t : Nat} (h : d ≠ some t) : (kY tm d v).get t = tm.get t := by
 cases d with
 | none => rfl
 | some d => exact tm.oU v (fun e => h (by rw [e]))
theorem Ly (tm : Tm) (d : Option Tmp) (v : V) : (kY tm d v).n = tm.n := by
 cases d <;> rfl
theorem lens (hr : jh P ops sn ac wr) : ∀ {i j : Nat}, i <= j -> j <= ops.size -> (sn i).hp.length <= (sn j).hp.length := by
 intro i j h
 induction j with
 | zero => intro _; rw [show i = 0 by omega]; exact Nat.le_refl _
 | succ j ih =>
  intro hj
  by_cases e : i = j + 1
  ·rw [e]; exact Nat.le_refl _
  ·exact Nat.le_trans (ih (by omega) (by omega)) (hr.parts j _ (Array.getElem?_eq_getElem (show j < ops.size by omega))).1.len
end
section
variable {P : Program} {ops : Array Oper} {sn : Nat -> St} {ac wr : Nat -> List Nat}
def pU (ops : Array Oper) (sn : Nat -> St) (L : Nat -> Bool) (t : Nat) : V := lw (lb ops t) (fun i => (sn i).tm.get t) L ops.size
def hc (ops : Array Oper) (sn : Nat -> St) (wr : Nat -> List Nat) (L : Nat -> Bool) (b : Nat) : Option (Option bM) := lw (fE sn wr b) (fun i => (sn i).hp[b]?) L ops.size
structure RI (P : Program) (ops : Array Oper) (sn : Nat -> St) (wr : Nat -> List Nat) (W : List Nat) (I0 : Nat -> Prop) (μ0 : Mu) (w0 : World) (L : Nat -> Bool) (a : Act) (w : World) (Im : Nat -> Prop) (μ : Mu) : Prop where
 tm : ∀ t, V.R P Im μ w (pU ops sn L t) (a.tmps.getD t undef)
 size : a.tmps.size = (sn 0).tm.n
 defers : a.defers = []
 holds : ∀ b blk, hc ops sn wr L b = some (some blk) -> Holds P Im μ w b blk
 inj : ∀ b c blk bG g, b ≠ c -> hc ops sn wr L b = some (some blk) -> hc ops sn wr L c = some (some bG) -> μ.own b g -> μ.own c g -> False
 cz : ∀ b g, μ b = some g -> μ0 b = some g \/ ∃ i, L i = true /\ i < ops.size /\ (sn i).hp.length <= b /\ b < (sn (i + 1)).hp.length
 cT : ∀ b, b ∉ W -> b < (sn 0).hp.length -> μ.ft b = μ0.ft b
 cr : cy I0 w0 w (fun k => ∃ b ∈ W, μ0.own b k /\ dt (sn 0).hp b)
 le : df μ0 μ
 dI : ∀ b, ((sn 0).hp.length <= b \/ b ∈ W) -> ∀ blk, hc ops sn wr L b = some (some blk) -> ∀ g, μ.own b g -> w0.heap.size <= g \/ ∃ c ∈ W, μ0.own c g /\ dt (sn 0).hp c
 dq : Sub I0 Im
 ei : ∀ k, Im k -> I0 k \/ w0.heap.size <= k \/ ∃ c ∈ W, μ0.own c k /\ dt (sn 0).hp c
 dj : kF P Im w
theorem Fz (hr : jh P ops sn ac wr) {b i : Nat} {o : Oper} (ho : ops[i]? = some o) (h : fE sn wr b i = false) : (sn (i + 1)).hp[b]? = (sn i).hp[b]? := by
 obtain ⟨ht, _, _⟩ := hr.parts i o ho
 simp only [fE, Bool.or_eq_false_iff, Bool.and_eq_false_iff, decide_eq_false_iff_not] at h
 rcases Nat.lt_or_ge b (sn i).hp.length with hb | hb
 ·exact ht.frame b hb (by simpa using h.1)
 ·rw [List.getElem?_eq_none hb, List.getElem?_eq_none af]
theorem L8 (hn : dA P) (hr : jh P ops sn ac wr) {W : List Nat} {I0 Im : Nat -> Prop} {μ0 : Mu} {w0 : World} {L : Nat -> Bool} {a : Act} {w : World} {μ : Mu} {j : Nat} {o : Oper}
  (hW : ∀ i, i < ops.size -> ∀ b ∈ wr i, b ∈ W) (RP : ∀ b g, μ0 b = some g -> b < (sn 0).hp.length)
  (ho : ops[j]? = some o) (hj : L j = false)
  (h1 : ∀ i oi, i < j -> ops[i]? = some oi -> L i = false -> oi.apart ops o = true /\ (∀ b ∈ ac j, fE sn wr b i = false) /\ (∀ b ∈ wr j, b ∉ ac i))
  (h2 : ∀ i oi, j < i -> ops[i]? = some oi -> L i = true -> o.apart ops oi = true /\ (∀ b ∈ ac i, fE sn wr b j = false) /\ (∀ b ∈ wr i, b ∉ ac j))
  (I : RI P ops sn wr W I0 μ0 w0 L a w Im μ) {K : Act -> World -> Prop} {Q : Exit -> Act -> World -> Prop}
  (hK : ∀ a' w' μ' cJ, RI P ops sn wr W I0 μ0 w0 (fQ L j) a' w' cJ μ' -> K a' w') : wpOp P ops Q j K a w := by
 have vB : j < ops.size := (Array.getElem?_eq_some_iff.1 ho).1
 have Jf := hr.step j o ho
 obtain ⟨kT, _, vt, hZ⟩ := M0 Jf
 have aL : ∀ i, i < ops.size -> ∃ oi, ops[i]? = some oi := fun i hi => ⟨_, Array.getElem?_eq_getElem hi⟩
 have Rc : ∀ i, i < ops.size -> Tidy (sn i).hp (sn (i + 1)).hp (ac i) (wr i) := fun i hi => by
  obtain ⟨oi, e9⟩ := aL i hi
  exact (hr.parts i oi e9).1
 have tw : ∀ i k, i <= k -> k <= ops.size -> (sn i).hp.length <= (sn k).hp.length := fun i k => lens hr
 have C4 : ∀ t, t ∈ o.looksAt ops -> pU ops sn L t = (sn j).tm.get t := by
  intro t ht
  unfold pU
  rw [zn (j := j) af (fun i hi cL eA => ?_)]
  ·refine vT (fun i hi eA => ?_) (fun i hi eA => ?_)
   ·cases hL : L i with
    | true => rfl
    | false =>
     obtain ⟨oi, e9⟩ := aL i af
     have hd : oi.dst = some t := by simpa [lb, e9] using eA
     exact absurd ht ((Oper.apart_spec (h1 i oi hi e9 hL).1).1 t hd)
   ·obtain ⟨oi, e9⟩ := aL i af
    obtain ⟨_, _, v, hv⟩ := hr.parts i oi e9
    have hd : oi.dst ≠ some t := by simpa [lb, e9] using eA
    show (sn (i + 1)).tm.get t = _
    rw [hv, Lz hd]
  ·cases hL : L i with
   | false => rfl
   | true =>
    rcases Nat.lt_or_ge j i with bO | gm
    ·obtain ⟨oi, e9⟩ := aL i cL
     have hd : oi.dst = some t := by simpa [lb, e9] using eA
     exact absurd ht ((Oper.apart_spec (h2 i oi bO e9 hL).1).2.2 t hd)
    ·have : i = j := af
     rw [this, hj] at hL; cases hL
 have bu : ∀ b ∈ ac j, hc ops sn wr L b = (sn j).hp[b]? := by
  intro b hb
  have bI := kT.iu b hb
  unfold hc
  rw [zn (j := j) af (fun i hi cL eA => ?_)]
  ·refine vT (fun i hi eA => ?_) (fun i hi eA => ?_)
   ·cases hL : L i with
    | true => rfl
    | false =>
     obtain ⟨oi, e9⟩ := aL i af
     rw [(h1 i oi hi e9 hL).2.1 b hb] at eA; cases eA
   ·obtain ⟨oi, e9⟩ := aL i af
    exact Fz hr e9 eA
  ·cases hL : L i with
   | false => rfl
   | true =>
    rcases Nat.lt_or_ge j i with bO | gm
    ·obtain ⟨oi, e9⟩ := aL i cL
     have hm := tw j i af af
     simp only [fE, Bool.or_eq_true, Bool.and_eq_true, decide_eq_true_eq] at eA
     rcases eA with eA | eA
     ·exact absurd hb ((h2 i oi bO e9 hL).2.2 b (by simpa using eA))
     ·omega
    ·have : i = j := af
     rw [this, hj] at hL; cases hL
 have S8 : ∀ t, lb ops t j = true -> pU ops sn (fQ L j) t = (sn (j + 1)).tm.get t := by
  intro t ht
  refine JR vB ht fun i hi cL eA => ?_
  cases hL : L i with
  | false => rfl
  | true =>
   obtain ⟨oi, e9⟩ := aL i cL
   have hd : oi.dst = some t := by simpa [lb, e9] using eA
   have lE : o.dst = some t := by simpa [lb, ho] using ht
   exact absurd hd ((Oper.apart_spec (h2 i oi hi e9 hL).1).2.1 t lE)
 have S9 : ∀ t, lb ops t j = false -> pU ops sn (fQ L j) t = pU ops sn L t := fun t ht => DP ht _
 have IG : ∀ b, fE sn wr b j = false -> hc ops sn wr (fQ L j) b = hc ops sn wr L b := fun b hb => DP hb _
 have yL : ∀ b, fE sn wr b j = true -> hc ops sn wr (fQ L j) b = (sn (j + 1)).hp[b]? := by
  intro b hb
  refine JR vB hb fun i hi cL eA => ?_
  cases hL : L i with
  | false => rfl
  | true =>
   obtain ⟨oi, e9⟩ := aL i cL
   have hm := tw (j + 1) i af af
   have vC := kT.len
   simp only [fE, Bool.or_eq_true, Bool.and_eq_true, decide_eq_true_eq] at eA
   rcases eA with eA | eA
   ·have gk : b ∈ ac i := (Rc i cL).j8 b (by simpa using eA)
    rw [(h2 i oi hi e9 hL).2.1 b gk] at hb; cases hb
   ·simp only [fE, Bool.or_eq_true, Bool.and_eq_true, decide_eq_true_eq] at hb
    rcases hb with hb | hb
    ·have := kT.iu b (kT.j8 b (by simpa using hb)); omega
    ·omega
 have Ri : ∀ b ∈ ac j, hc ops sn wr (fQ L j) b = (sn (j + 1)).hp[b]? := by
  intro b hb
  cases ht : fE sn wr b j with
  | true => exact yL b ht
  | false => rw [IG b ht, bu b hb, Fz hr ho ht]
 have tz : ∀ b, (sn j).hp.length <= b -> b < (sn (j + 1)).hp.length -> hc ops sn wr (fQ L j) b = (sn (j + 1)).hp[b]? := fun b hb bX => yL b (by simp [fE, hb, bX])
 have jo : ∀ b, (sn j).hp.length <= b -> b < (sn (j + 1)).hp.length -> μ b = none := by
  intro b hb bX
  cases hm : μ b with
  | none => rfl
  | some g =>
   rcases I.cz b g hm with h | ⟨i, hL, cL, IJ, ak2⟩
   ·have := RP b g h
    have := tw 0 j af af
    omega
   ·exfalso
    rcases Nat.lt_trichotomy i j with bO | rfl | tq
    ·have := tw (i + 1) j af af; omega
    ·rw [hj] at hL; cases hL
    ·have := tw (j + 1) i af af; omega
 have SI : ∀ x ∈ o.op.operands, V.R P Im μ w (evalV (sn j).tm x) (a.eval x) := by
  intro x hx
  cases x with
  | tmp t =>
   simp only [evalV, Act.eval]
   rw [<- C4 t (by unfold Oper.looksAt; exact List.mem_append.2 (.inl (List.mem_filterMap.2 ⟨.tmp t, by simpa using hx, rfl⟩)))]
   exact I.tm t
  | const v => exact Gi v
  | global g => simp [evalV, V.R]
  | func f => simp [evalV, Act.eval, V.R, V.RL]
 have fin : ∀ (vv : V) (val : Value) (w' : World) (μ' : Mu) (cJ : Nat -> Prop), (sn (j + 1)).tm = kY (sn j).tm o.dst vv -> V.R P cJ μ' w' vv val -> Good P Im cJ μ μ' w w' (sn j).hp (sn (j + 1)).hp (ac j) (wr j) ->
   RI P ops sn wr W I0 μ0 w0 (fQ L j) (a.put o.dst val) w' cJ μ' := by
  intro vv val w' μ' cJ Ti hR hG
  have Sd : ∀ c v, V.R P Im μ w c v -> V.R P cJ μ' w' c v := fun c v h => h.keep hG.cr hG.dq hG.le
  have ak4 : (sn 0).hp.length <= (sn j).hp.length := tw 0 j af af
  have vi : ∀ b, b ∈ wr j -> ∃ blk, hc ops sn wr L b = some (some blk) := by
   intro b hb
   obtain ⟨blk, h⟩ := kT.j7 b hb
   exact ⟨blk, by rw [bu b (kT.j8 b hb)]; exact h⟩
  have qU : ∀ b blk, hc ops sn wr (fQ L j) b = some (some blk) -> ((b ∈ ac j \/ (sn j).hp.length <= b) /\ b < (sn (j + 1)).hp.length /\ (sn (j + 1)).hp[b]? = some (some blk)) \/ (b ∉ ac j /\ fE sn wr b j = false /\ hc ops sn wr L b = some (some blk)) := by
   intro b blk h
   by_cases hb : b ∈ ac j
   ·rw [Ri b hb] at h; exact .inl ⟨.inl hb, eV h, h⟩
   ·cases ht : fE sn wr b j with
    | true =>
     rw [yL b ht] at h
     simp only [fE, Bool.or_eq_true, Bool.and_eq_true, decide_eq_true_eq] at ht
     rcases ht with ht | ht
     ·exact absurd (kT.j8 b (by simpa using ht)) hb
     ·exact .inl ⟨.inr ht.1, ht.2, h⟩
    | false => rw [IG b ht] at h; exact .inr ⟨hb, rfl, h⟩
  have tD : ∀ b, fE sn wr b j = false -> b ∉ wr j /\ ¬ ((sn j).hp.length <= b /\ b < (sn (j + 1)).hp.length) := by
   intro b hb
   simp only [fE, Bool.or_eq_false_iff, Bool.and_eq_false_iff, decide_eq_false_iff_not] at hb
   exact ⟨by simpa using hb.1, fun h => hb.2.elim (fun h1 => h1 h.1) fun h1 => h1 h.2⟩
  have IZ : ∀ b g, fE sn wr b j = false -> μ' b = some g -> μ b = some g := by
   intro b g hb hg
   rcases hG.cz b g hg with h | h
   ·exact h
   ·exact absurd h (tD b hb).2
  have IE : ∀ b, fE sn wr b j = false -> μ'.ft b = μ.ft b := fun b hb => hG.cT b (tD b hb).1 (tD b hb).2
  have nz : ∀ b g, fE sn wr b j = false -> μ'.own b g -> μ.own b g := by
   intro b g hb hg
   rcases hg with hg | hg
   ·exact .inl (IZ b g hb hg)
   ·rw [IE b hb] at hg; exact .inr hg
  have Cw : ∀ c k, c ∈ wr j -> μ.own c k -> w0.heap.size <= k \/ ∃ c ∈ W, μ0.own c k /\ dt (sn 0).hp c := by
   intro c g cf bZ
   obtain ⟨b3, mA⟩ := vi c cf
   exact I.dI c (.inr (hW j vB c cf)) b3 mA g bZ
  refine ⟨fun t => ?_, ?_, ?_, fun b blk h => ?_, fun b c b1 b2 g bp dW gU g1 g2 => ?_, fun b g hg => ?_, fun b hb bI => ?_, ?_, I.le.trans hG.le, fun b hb blk h g hg => ?_, fun k h => hG.dq k (I.dq k h), fun k hk => ?_, I.dj.step hG.cr hG.dq fun k hk => ?_⟩
  ·cases ht : lb ops t j with
   | false =>
    rw [S9 t ht]
    have hd : o.dst ≠ some t := by simpa [lb, ho] using ht
    have e : (a.put o.dst val).tmps.getD t undef = a.tmps.getD t undef := by
     cases Dc : o.dst with
     | none => rfl
     | some d =>
      have RT : d ≠ t := fun e => hd (by rw [Dc, e])
      simp [Act.put, Array.getElem?_setIfInBounds, RT]
    rw [e]
    exact Sd _ _ (I.tm t)
   | true =>
    rw [S8 t ht, Ti]
    have hd : o.dst = some t := by simpa [lb, ho] using ht
    have hlen : (sn j).tm.n = (sn 0).tm.n := by
     have : ∀ i, i <= ops.size -> (sn i).tm.n = (sn 0).tm.n := by
      intro i
      induction i with
      | zero => intro _; rfl
      | succ i ih =>
       intro hi
       obtain ⟨oi, e9⟩ := aL i af
       obtain ⟨_, _, v, hv⟩ := hr.parts i oi e9
       rw [hv, Ly, ih af]
     exact this j af
    rw [hd]
    simp only [kY, Act.put]
    rcases (sn j).tm.get_eq t vv with ⟨e, vO⟩ | e
    ·have : t < a.tmps.size := by rw [I.size]; omega
     rw [e]
     simp [this]
     exact hR
    ·rw [e]
     simp [V.R]
  ·cases Dc : o.dst <;> simp [Act.put, I.size]
  ·cases Dc : o.dst <;> simp [Act.put, I.defers]
  ·rcases qU b blk h with ⟨hb, _, h'⟩ | ⟨hb, jT, h'⟩
   ·exact hG.holds b hb blk h'
   ·refine (I.holds b blk h').keep hG.cr hG.dq hG.le (fun h0 => ?_) (IE b jT) (fun g hg hx => ?_) (fun g hg hi => ?_)
    ·cases hm : μ' b with
     | none => rfl
     | some g => rw [IZ b g jT hm] at h0; cases h0
    ·obtain ⟨c, cf, bZ⟩ := hx
     obtain ⟨bG, cF⟩ := vi c cf
     exact I.inj b c _ _ g (by rintro rfl; exact hb (kT.j8 _ cf)) h' cF hg bZ
    ·rcases hG.ei g hi with h | ⟨h, _⟩ | ⟨c, cf, bZ, _⟩
     ·exact (I.holds b blk h').ku hg h
     ·have := (I.holds b blk h').lt hg; omega
     ·obtain ⟨bG, cF⟩ := vi c cf
      exact I.inj b c _ _ g (by rintro rfl; exact hb (kT.j8 _ cf)) h' cF hg bZ
  ·have other : ∀ b c b1 b2, b ≠ c -> b ∉ ac j -> fE sn wr b j = false -> hc ops sn wr L b = some (some b1) -> (c ∈ ac j \/ (sn j).hp.length <= c) -> c < (sn (j + 1)).hp.length -> (sn (j + 1)).hp[c]? = some (some b2) -> μ'.own b g -> μ'.own c g -> False := by
    intro b c b1 b2 bp hb jT dW dv bQ iW g1 g2
    have g1' := nz b g jT g1
    have mB := (I.holds b b1 dW).lt g1'
    by_cases cf : (sn j).hp.length <= c \/ c ∈ wr j
    ·rcases hG.dI c cf b2 iW g g2 with h | ⟨d, mE, lG, _⟩
     ·omega
     ·obtain ⟨b3, mA⟩ := vi d mE
      exact I.inj b d _ _ g (by rintro rfl; exact hb (kT.j8 _ mE)) dW mA g1' lG
    ·simp only [not_or, Nat.not_le] at cf
     have bS : c ∈ ac j := by rcases dv with h | h; exact h; omega
     have g2' : μ.own c g := by
      rcases g2 with g2 | g2
      ·rcases hG.cz c g g2 with h | ⟨h, _⟩
       ·exact .inl h
       ·omega
      ·rw [hG.cT c cf.2 af] at g2; exact .inr g2
     have mA : hc ops sn wr L c = some (some b2) := by
      rw [bu c bS, <- kT.frame c cf.1 cf.2]; exact iW
     exact I.inj b c _ _ g bp dW mA g1' g2'
   rcases qU b b1 dW with ⟨hb, bI, bX⟩ | ⟨hb, jT, bX⟩
   ·rcases qU c b2 gU with ⟨mD, bQ, iW⟩ | ⟨mD, Dr, iW⟩
    ·exact hG.inj b c b1 b2 g bp hb mD bX iW g1 g2
    ·exact other c b b2 b1 (Ne.symm bp) mD Dr iW hb bI bX g2 g1
   ·rcases qU c b2 gU with ⟨mD, bQ, iW⟩ | ⟨mD, Dr, iW⟩
    ·exact other b c b1 b2 bp hb jT bX mD bQ iW g1 g2
    ·exact I.inj b c b1 b2 g bp bX iW (nz b g jT g1) (nz c g Dr g2)
  ·rcases hG.cz b g hg with h | ⟨h3, h4⟩
   ·rcases I.cz b g h with h | ⟨i, hL, hi⟩
    ·exact .inl h
    ·exact .inr ⟨i, by simp [fQ, hL], hi⟩
   ·exact .inr ⟨j, by simp [fQ], vB, h3, h4⟩
  ·rw [hG.cT b (fun h => hb (hW j vB b h)) af]; exact I.cT b hb bI
  ·refine I.cr.trans hG.cr I.dq fun k hk hx => ?_
   obtain ⟨c, cf, bZ⟩ := hx
   rcases Cw c k cf bZ with h | ⟨d, RH, lG⟩
   ·omega
   ·exact ⟨d, RH, lG⟩
  ·-- where it aj8 from
   rcases qU b blk h with ⟨dW, bI, h'⟩ | ⟨dW, jT, h'⟩
   ·by_cases eN : (sn j).hp.length <= b \/ b ∈ wr j
    ·rcases hG.dI b eN blk h' g hg with h | ⟨c, cf, bZ, _⟩
     ·exact .inl (Nat.le_trans I.cr.size h)
     ·exact Cw c g cf bZ
    ·-- an eo block Fy it only looked at
     simp only [not_or, Nat.not_le] at eN
     have Rt : b ∈ ac j := by rcases dW with h | h; exact h; omega
     have mA : hc ops sn wr L b = some (some blk) := by
      rw [bu b Rt, <- kT.frame b eN.1 eN.2]; exact h'
     have CT : μ.own b g := by
      rcases hg with hg | hg
      ·rcases hG.cz b g hg with h | ⟨h, _⟩
       ·exact .inl h
       ·omega
      ·rw [hG.cT b eN.2 af] at hg; exact .inr hg
     exact I.dI b hb blk mA g CT
   ·exact I.dI b hb blk h' g (nz b g jT hg)
  ·rcases hG.ei k hk with h | ⟨h, _⟩ | ⟨c, cf, bZ, _⟩
   ·rcases I.ei k h with h | h | h
    ·exact .inl h
    ·exact .inr (.inl h)
    ·exact .inr (.inr h)
   ·exact .inr (.inl (Nat.le_trans I.cr.size h))
   ·exact .inr (Cw c k cf bZ)
  ·rcases hG.ei k hk with h | ⟨_, h⟩ | ⟨c, cf, bZ, _⟩
   ·exact Nat.lt_of_lt_of_le (I.dj k h) hG.cr.size
   ·exact h
   ·obtain ⟨b3, mA⟩ := vi c cf
    exact Nat.lt_of_lt_of_le ((I.holds c b3 mA).lt bZ) hG.cr.size
 unfold wpOp
 rw [ho]
 simp only
 have Jk : ∀ bb, wantedV ops (sn j).tm o = some bb -> Region.wanted o (yielded ops a.tmps) = bb := by
  intro bb kj
  unfold wantedV at kj
  unfold Region.wanted
  split at kj
  ·rename_i hg; cases kj; rw [hg]
  ·rename_i k want hg
   rw [hg]
   simp only
   split at kj
   case h_2 => cases kj
   case h_1 d hd =>
   split at kj
   case h_3 => cases kj
   case h_2 vs mC =>
    cases kj
    have C3 := C4 d (by unfold Oper.looksAt; rw [hg]; exact List.mem_append.2 (.inr (by simp [hd])))
    have hR := I.tm d
    rw [C3, mC] at hR
    simp only [V.R] at hR
    have hy : yielded ops a.tmps k = none := by
     unfold yielded
     rw [hd]
     simp only [Option.bind_some]
     by_cases kO : d < a.tmps.size
     ·simp [Array.getD_eq_getD_getElem?, kO] at hR
      simp [kO, hR]
     ·simp [kO]
    rw [hy]
    rfl
   case h_1 bv mC =>
   cases kj
   have C3 := C4 d (by unfold Oper.looksAt; rw [hg]; exact List.mem_append.2 (.inr (by simp [hd])))
   have hR := I.tm d
   rw [C3, mC] at hR
   simp only [V.R] at hR
   have hy : yielded ops a.tmps k = some bv := by
    unfold yielded
    rw [hd]
    simp only [Option.bind_some]
    by_cases kO : d < a.tmps.size
    ·simp [Array.getD_eq_getD_getElem?, kO] at hR
     simp [kO, hR]
    ·simp [Array.getD_eq_getD_getElem?, kO, undef] at hR
   rw [hy]
   cases bv <;> cases want <;> rfl
 rcases Jf with ⟨zh, out, SK, e1, e2, e3⟩ | ⟨Tk, e1, e2, e3⟩
 ·rw [Jk true zh]
  simp only [if_true]
  have x8 : (sn (j + 1)).hp = out.hp := by rw [e1]
  have BU : (sn (j + 1)).tm = kY (sn j).tm o.dst out.v := by rw [e1]
  left
  refine SK.wp rfl SI ⟨I.dj, fun b hb blk h => ?_, fun b hb c cF b1 b2 g bp dW gU g1 g2 => ?_, fun b hb bX => jo b hb (by rw [x8]; exact bX)⟩ fun val w' μ' cJ hR hG => hK _ _ μ' cJ (fin out.v val w' μ' cJ BU hR (by rw [x8, e2, e3]; exact hG))
  ·rw [<- e2] at hb
   exact I.holds b blk (by rw [bu b hb]; exact h)
  ·rw [<- e2] at hb cF
   exact I.inj b c b1 b2 g bp (by rw [bu b hb]; exact dW) (by rw [bu c cF]; exact gU) g1 g2
 ·rw [Jk false Tk]
  simp only [Bool.false_eq_true, if_false]
  have x8 : (sn (j + 1)).hp = (sn j).hp := by rw [e1]
  have BU : (sn (j + 1)).tm = kY (sn j).tm o.dst (.lit undef) := by rw [e1]
  refine hK _ _ μ Im (fin (.lit undef) undef w μ Im BU (by simp [V.R]) ?_)
  rw [x8, e2, e3]
  exact Good.same _ ⟨I.dj, by simp, by simp, fun b hb bX => af⟩
end
structure Entry (P : Program) (aZ : Hp) (I0 : Nat -> Prop) (μ0 : Mu) (w0 : World) : Prop where
 holds : ∀ b blk, aZ[b]? = some (some blk) -> Holds P I0 μ0 w0 b blk
 inj : ∀ b c blk bG g, b ≠ c -> aZ[b]? = some (some blk) -> aZ[c]? = some (some bG) -> μ0.own b g -> μ0.own c g -> False
 cz : ∀ b g, μ0 b = some g -> b < aZ.length
structure CI (P : Program) (aZ : Hp) (I0 : Nat -> Prop) (μ0 : Mu) (w0 : World) (s : St) (a : Act) (w : World) (Im : Nat -> Prop) (μ : Mu) : Prop where
 tm : ∀ t, V.R P Im μ w (s.tm.get t) (a.tmps.getD t undef)
 size : a.tmps.size = s.tm.n
 defers : a.defers = []
 holds : ∀ b blk, s.hp[b]? = some (some blk) -> Holds P Im μ w b blk
 inj : ∀ b c blk bG g, b ≠ c -> s.hp[b]? = some (some blk) -> s.hp[c]? = some (some bG) -> μ.own b g -> μ.own c g -> False
 cz : ∀ b g, μ b = some g -> b < s.hp.length
 lv : ∀ b g, μ b = some g -> b < aZ.length -> μ0 b = some g
 cT : ∀ b, b < aZ.length -> b ∉ s.wr -> μ.ft b = μ0.ft b
 cr : cy I0 w0 w (fun k => ∃ b ∈ s.wr, b < aZ.length /\ μ0.own b k)
 le : df μ0 μ
 dI : ∀ b, (aZ.length <= b \/ b ∈ s.wr) -> ∀ blk, s.hp[b]? = some (some blk) -> ∀ g, μ.own b g -> w0.heap.size <= g \/ ∃ c ∈ s.wr, c < aZ.length /\ μ0.own c g /\ dt aZ c
 len : aZ.length <= s.hp.length
 frame : ∀ b, b < aZ.length -> b ∉ s.wr -> s.hp[b]? = aZ[b]?
 alive : ∀ b, b < aZ.length -> dt s.hp b -> dt aZ b
 ur : ∀ b ∈ s.wr, b < aZ.length -> dt aZ b
 dq : Sub I0 Im
 ei : ∀ k, Im k -> I0 k \/ w0.heap.size <= k \/ ∃ c ∈ s.wr, c < aZ.length /\ μ0.own c k /\ dt aZ c
 dj : kF P Im w
 m8 : Entry P aZ I0 μ0 w0
section
variable {P : Program} {ops : Array Oper} {sn : Nat -> St} {ac wr : Nat -> List Nat}
theorem EC (hr : jh P ops sn ac wr) {c : Nat} (jn : c < (sn 0).hp.length) : ∀ i, i <= ops.size -> dt (sn i).hp c -> dt (sn 0).hp c := by
 intro i
 induction i with
 | zero => intro _ h; exact h
 | succ i ih =>
  intro hi ⟨blk, du⟩
  have ht := (hr.parts i _ (Array.getElem?_eq_getElem (show i < ops.size by omega))).1
  refine ih (by omega) ?_
  by_cases hw : c ∈ wr i
  ·exact ht.j7 c hw
  ·rw [ht.frame c (by have := lens hr (show 0 <= i by omega) (by omega); omega) hw] at du; exact ⟨_, du⟩
theorem Mi (hr : jh P ops sn ac wr) {c : Nat} (jn : c < (sn 0).hp.length) (hn : ∀ i, i < ops.size -> c ∉ wr i) : ∀ i, i <= ops.size -> (sn i).hp[c]? = (sn 0).hp[c]? := by
 intro i
 induction i with
 | zero => intro _; rfl
 | succ i ih =>
  intro hi
  have ht := (hr.parts i _ (Array.getElem?_eq_getElem (show i < ops.size by omega))).1
  rw [ht.frame c (by have := lens hr (show 0 <= i by omega) (by omega); omega) (hn i (by omega)), ih (by omega)]
theorem ZF (hr : jh P ops sn ac wr) : ∀ i, i <= ops.size -> (sn i).tm.n = (sn 0).tm.n := by
 intro i
 induction i with
 | zero => intro _; rfl
 | succ i ih =>
  intro hi
  obtain ⟨_, _, v, hv⟩ := hr.parts i _ (Array.getElem?_eq_getElem (show i < ops.size by omega))
  rw [hv, Ly, ih (by omega)]
theorem RA (hr : jh P ops sn ac wr) {L : Nat -> Bool} (hL : ∀ i, i < ops.size -> L i = true) (b : Nat) : hc ops sn wr L b = (sn ops.size).hp[b]? :=
 vT (fun i hi _ => hL i hi) fun i hi h => Fz hr (Array.getElem?_eq_getElem hi) h
theorem ag8 (hr : jh P ops sn ac wr) {L : Nat -> Bool} (hL : ∀ i, i < ops.size -> L i = true) (t : Nat) : pU ops sn L t = (sn ops.size).tm.get t :=
 vT (fun i hi _ => hL i hi) fun i hi h => by
  obtain ⟨_, _, v, hv⟩ := hr.parts i _ (Array.getElem?_eq_getElem hi)
  have hd : ops[i].dst ≠ some t := by simpa [lb, hi] using h
  show (sn (i + 1)).tm.get t = _
  rw [hv, Lz hd]
theorem DQ {α : Type} {fD : Nat -> Bool} {can : Nat -> α} {L : Nat -> Bool} (hL : ∀ i, L i = false) : ∀ n, lw fD can L n = can 0
 | 0 => rfl
 | n + 1 => by unfold lw; simp [hL n, DQ hL n]
theorem L7 {aZ : Hp} {I0 Im : Nat -> Prop} {μ0 μ : Mu} {w0 w : World} {a : Act} {W : List Nat} {L : Nat -> Bool} (hL : ∀ i, L i = false) (C : CI P aZ I0 μ0 w0 (sn 0) a w Im μ) (w1 : World) (hw : w1 = w \/ w1 = w.drew) : RI P ops sn wr W Im μ w L a w1 Im μ := by
 have hh : ∀ b, hc ops sn wr L b = (sn 0).hp[b]? := fun b => DQ hL _
 have ht : ∀ t, pU ops sn L t = (sn 0).tm.get t := fun t => DQ hL _
 have hE : cy Im w w1 (fun k => ∃ b ∈ W, μ.own b k /\ dt (sn 0).hp b) := by
  rcases hw with rfl | rfl
  ·exact .refl _ _
  ·exact .drew _ _
 refine ⟨fun t => by rw [ht]; exact (C.tm t).keep hE (.refl _) (.refl _), C.size, C.defers, fun b blk h => by
   rw [hh] at h
   rcases hw with rfl | rfl
   ·exact C.holds b blk h
   ·exact (C.holds b blk h).keep (.drew w (fun _ => False)) (.refl _) (.refl _) (fun h => h) rfl (fun _ _ h => h) (fun g hg => (C.holds b blk h).ku hg), fun b c b1 b2 g bp h1 h2 => C.inj b c b1 b2 g bp (by rw [<- hh]; exact h1) (by rw [<- hh]; exact h2),
  fun b g h => .inl h, fun _ _ _ => rfl, hE, .refl _, fun b hb blk h g hg => ?_, .refl _, fun k h => .inl h, C.dj.step hE (fun _ h => h) fun k h => Nat.lt_of_lt_of_le (C.dj k h) hE.size⟩
 rw [hh] at h
 rcases hb with hb | hb
 ·rw [List.getElem?_eq_none hb] at h; cases h
 ·exact .inr ⟨b, hb, hg, ⟨_, h⟩⟩
theorem GQ (hr : jh P ops sn ac wr) {aZ : Hp} {I0 Im cJ : Nat -> Prop} {μ0 μ μ' : Mu} {w0 w w' : World} {a a' : Act} {W : List Nat} {L : Nat -> Bool} (hL : ∀ i, i < ops.size -> L i = true)
  (hW : ∀ b, b ∈ W ↔ ∃ i, i < ops.size /\ b ∈ wr i) (iA : ∀ b, b ∈ (sn ops.size).wr ↔ b ∈ (sn 0).wr \/ b ∈ W)
  (C : CI P aZ I0 μ0 w0 (sn 0) a w Im μ) (I : RI P ops sn wr W Im μ w L a' w' cJ μ') : CI P aZ I0 μ0 w0 (sn ops.size) a' w' cJ μ' := by
 have hh := RA hr hL
 have ht := ag8 hr hL
 have hl := lens hr (Nat.zero_le ops.size) (Nat.le_refl _)
 have jO := fun c jn => EC hr (c := c) jn ops.size (Nat.le_refl _)
 have dP : ∀ b, b < (sn 0).hp.length -> b ∉ W -> (sn ops.size).hp[b]? = (sn 0).hp[b]? := fun b hb hn => Mi hr hb (fun i hi h => hn ((hW b).2 ⟨i, hi, h⟩)) ops.size (Nat.le_refl _)
 have I9 : ∀ b g, b < (sn 0).hp.length -> μ' b = some g -> μ b = some g := by
  intro b g hb hg
  rcases I.cz b g hg with h | ⟨i, _, hi, h3, _⟩
  ·exact h
  ·have := lens hr (Nat.zero_le i) (by omega); omega
 have SH : ∀ b g, b < (sn 0).hp.length -> b ∉ W -> μ'.own b g -> μ.own b g := by
  intro b g hb hn hg
  rcases hg with hg | hg
  ·exact .inl (I9 b g hb hg)
  ·rw [I.cT b hn hb] at hg; exact .inr hg
 have Rf : ∀ b, b ∈ W -> b < (sn 0).hp.length -> dt (sn 0).hp b := by
  intro b hb bO
  obtain ⟨i, hi, gk⟩ := (hW b).1 hb
  have S6 := (hr.parts i _ (Array.getElem?_eq_getElem hi)).1
  exact EC hr bO i (by omega) (S6.j7 b gk)
 have eo : ∀ c g, c ∈ W -> μ.own c g -> dt (sn 0).hp c -> w0.heap.size <= g \/ ∃ c ∈ (sn ops.size).wr, c < aZ.length /\ μ0.own c g /\ dt aZ c := by
  intro c g qG bZ bS
  obtain ⟨blk, du⟩ := bS
  by_cases jn : aZ.length <= c \/ c ∈ (sn 0).wr
  ·rcases C.dI c jn blk du g bZ with h | ⟨d, hd, vp, lG, lF⟩
   ·exact .inl h
   ·exact .inr ⟨d, (iA d).2 (.inl hd), vp, lG, lF⟩
  ·have bQ : c < aZ.length := by
    rcases Nat.lt_or_ge c aZ.length with h | h
    ·exact h
    ·exact absurd (.inl h) jn
   have cf : c ∉ (sn 0).wr := fun h => jn (.inr h)
   refine .inr ⟨c, (iA c).2 (.inr qG), bQ, ?_, C.alive c bQ ⟨_, du⟩⟩
   rcases bZ with bZ | bZ
   ·exact .inl (C.lv c g bZ bQ)
   ·rw [C.cT c bQ cf] at bZ; exact .inr bZ
 refine ⟨fun t => by rw [<- ht]; exact I.tm t, by rw [I.size, ZF hr _ (Nat.le_refl _)], I.defers, fun b blk h => I.holds b blk (by rw [hh]; exact h), fun b c b1 b2 g bp h1 h2 => I.inj b c b1 b2 g bp (by rw [hh]; exact h1) (by rw [hh]; exact h2),
  fun b g h => ?_, fun b g h hb => C.lv b g (I9 b g (by have := C.len; omega) h) hb, fun b hb hn => ?_, ?_, C.le.trans I.le, fun b hb blk h g hg => ?_, Nat.le_trans C.len hl, fun b hb hn => ?_, fun b hb h => C.alive b hb (jO b (by have := C.len; omega) h), fun b hb eY => ?_, fun k h => I.dq k (C.dq k h), fun k hk => ?_, I.dj, C.m8⟩
 ·rcases I.cz b g h with h | ⟨i, _, hi, _, h4⟩
  ·have := C.cz b g h; omega
  ·have := lens hr (show i + 1 <= ops.size by omega) (Nat.le_refl _); omega
 ·rw [I.cT b (fun h => hn ((iA b).2 (.inr h))) (by have := C.len; omega), C.cT b hb (fun h => hn ((iA b).2 (.inl h)))]
 ·refine (C.cr.mono (fun k hk => by obtain ⟨b, hb, hg⟩ := hk; exact ⟨b, (iA b).2 (.inl hb), hg⟩)).trans I.cr C.dq fun k hk hx => ?_
  obtain ⟨b, hb, hg, du⟩ := hx
  rcases eo b k hb hg du with h | ⟨c, hc, jn, bZ, _⟩
  ·omega
  ·exact ⟨c, hc, jn, bZ⟩
 ·rcases Nat.lt_or_ge b (sn 0).hp.length with eY | eY
  ·by_cases yG : b ∈ W
   ·rcases I.dI b (.inr yG) blk (by rw [hh]; exact h) g hg with h | ⟨c, qG, bZ, bS⟩
    ·exact .inl (Nat.le_trans C.cr.size h)
    ·exact eo c g qG bZ bS
   ·have CT := SH b g eY yG hg
    rw [dP b eY yG] at h
    rcases C.dI b (hb.elim .inl fun h => ((iA b).1 h).elim .inr fun h => absurd h yG) blk h g CT with h | ⟨d, hd, vp, lG, lF⟩
    ·exact .inl h
    ·exact .inr ⟨d, (iA d).2 (.inl hd), vp, lG, lF⟩
  ·rcases I.dI b (.inl eY) blk (by rw [hh]; exact h) g hg with h | ⟨c, qG, bZ, bS⟩
   ·exact .inl (Nat.le_trans C.cr.size h)
   ·exact eo c g qG bZ bS
 ·rw [dP b (by have := C.len; omega) (fun h => hn ((iA b).2 (.inr h)))]
  exact C.frame b hb (fun h => hn ((iA b).2 (.inl h)))
 ·rcases (iA b).1 hb with h | h
  ·exact C.ur b h eY
  ·exact C.alive b eY (Rf b h (by have := C.len; omega))
 ·rcases I.ei k hk with h | h | ⟨c, qG, bZ, bS⟩
  ·rcases C.ei k h with h | h | ⟨d, hd, vp, lG, lF⟩
   ·exact .inl h
   ·exact .inr (.inl h)
   ·exact .inr (.inr ⟨d, (iA d).2 (.inl hd), vp, lG, lF⟩)
  ·exact .inr (.inl (Nat.le_trans C.cr.size h))
  ·rcases eo c k qG bZ bS with h | h
   ·exact .inr (.inl h)
   ·exact .inr (.inr h)
theorem LP (hn : dA P) (hr : jh P ops sn ac wr) {W : List Nat} {I0 : Nat -> Prop} {μ : Mu} {w : World} (hW : ∀ i, i < ops.size -> ∀ b ∈ wr i, b ∈ W) (dO : ∀ b g, μ b = some g -> b < (sn 0).hp.length)
  {Q : Exit -> Act -> World -> Prop} (hQ : ∀ L a' w' μ' cJ, (∀ i, i < ops.size -> L i = true) -> RI P ops sn wr W I0 μ w L a' w' cJ μ' -> Q .normal a' w') :
  ∀ (m k : Nat), k + m = ops.size -> ∀ a w1 μ1 p5, RI P ops sn wr W I0 μ w (fun i => decide (i < k)) a w1 p5 μ1 -> wpOps P ops Q (List.range' k m) a w1
 | 0, k, hk, a, w1, μ1, p5, I => by
  simp only [List.range'_zero, wpOps]
  exact hQ _ _ _ _ _ (fun i hi => by simp; omega) I
 | m + 1, k, hk, a, w1, μ1, p5, I => by
  rw [List.range'_succ, wpOps_cons]
  refine L8 hn hr hW dO (Array.getElem?_eq_getElem (show k < ops.size by omega)) (by simp) (fun i oi hi _ hL => by simp at hL; omega) (fun i oi hi _ hL => by simp at hL; omega) I fun a' w' μ' cJ I' => ?_
  have e : fQ (fun i => decide (i < k)) k = fun i => decide (i < k + 1) := by
   funext i
   rw [Bool.eq_iff_iff]
   simp [fQ]
   omega
  rw [e] at I'
  exact LP hn hr hW dO hQ m (k + 1) (by omega) a' w' μ' cJ I'
structure F9 (ops : Array Oper) (sn : Nat -> St) (ac wr : Nat -> List Nat) (i j : Nat) : Prop where
 apart : ∀ oi oj, ops[i]? = some oi -> ops[j]? = some oj -> oi.apart ops oj = true
 read : ∀ b ∈ ac j, fE sn wr b i = false
 write : ∀ b ∈ wr j, b ∉ ac i
inductive mY (ops : Array Oper) (i : Nat) : Nat -> Prop where
 | one {j : Nat} {o : Oper} {e : Edge} (ho : ops[j]? = some o) (he : e ∈ o.after) (hb : Region.binds .any e = true) (h : e.on = i) : mY ops i j
 | more {j : Nat} {o : Oper} {e : Edge} (ho : ops[j]? = some o) (he : e ∈ o.after) (hb : Region.binds .any e = true) (h : mY ops i e.on) : mY ops i j
def AI (ops : Array Oper) (L : Nat -> Bool) : Prop := ∀ j o e, L j = true -> ops[j]? = some o -> e ∈ o.after -> Region.binds .any e = true -> L e.on = true
theorem mY.closed {L : Nat -> Bool} (hL : AI ops L) {i j : Nat} (h : mY ops i j) (hj : L j = true) : L i = true := by
 induction h with
 | one ho he hb h => rw [<- h]; exact hL _ _ _ hj ho he hb
 | more ho he hb _ ih => exact ih (hL _ _ _ hj ho he hb)
def gI (dE : Array Bool) : Nat -> Bool := fun i => dE.getD i false
theorem YY (hn : dA P) (hr : jh P ops sn ac wr) {W : List Nat} {I0 : Nat -> Prop} {μ : Mu} {w : World} (hW : ∀ i, i < ops.size -> ∀ b ∈ wr i, b ∈ W) (dO : ∀ b g, μ b = some g -> b < (sn 0).hp.length)
  (td : ∀ j o e, ops[j]? = some o -> e ∈ o.after -> Region.binds .any e = true -> e.on < j)
  (yK : ∀ i j, i < j -> j < ops.size -> mY ops i j \/ F9 ops sn ac wr i j)
  {Q : Exit -> Act -> World -> Prop} (hQ : ∀ L a' w' μ' cJ, (∀ i, i < ops.size -> L i = true) -> RI P ops sn wr W I0 μ w L a' w' cJ μ' -> Q .normal a' w') :
  ∀ (fuel : Nat) (dE : Array Bool), dE.size = ops.size -> dE.toList.countP (· == false) <= fuel -> AI ops (gI dE) -> ∀ a w1 μ1 p5, RI P ops sn wr W I0 μ w (gI dE) a w1 p5 μ1 -> wpAny P .any ops Q fuel dE a w1 := by
 have done : ∀ dE : Array Bool, dE.size = ops.size -> Region.ready .any ops dE = [] -> ∀ i, i < ops.size -> gI dE i = true := by
  intro dE hs Di i
  induction i using Nat.strongRecOn with
  | _ i ih =>
   intro hi
   cases hl : gI dE i with
   | true => rfl
   | false =>
    exfalso
    have hm : i ∈ Region.ready .any ops dE := by
     unfold Region.ready
     rw [List.mem_filter]
     refine ⟨by simpa using hi, ?_⟩
     have Sk : dE.getD i true = false := by
      simp only [gI, Array.getD_eq_getD_getElem?] at hl ⊢
      rw [Array.getElem?_eq_getElem af] at hl ⊢
      simpa using hl
     rw [Sk, Array.getElem?_eq_getElem hi]
     simp only [Bool.not_false, Bool.true_and, Option.map_some, Option.getD_some]
     rw [Array.all_eq_true_iff_forall_mem]
     intro e he
     cases hb : Region.binds .any e with
     | false => rfl
     | true =>
      have bO := td i _ e (Array.getElem?_eq_getElem hi) he hb
      have := ih e.on bO af
      simpa [gI] using this
    rw [Di] at hm
    simp at hm
 have step : ∀ (dE : Array Bool), dE.size = ops.size -> AI ops (gI dE) -> ∀ i, i ∈ Region.ready .any ops dE -> i < ops.size /\ gI dE i = false /\ (∀ e, e ∈ (ops[i]?).elim #[] (·.after) -> Region.binds .any e = true -> gI dE e.on = true) := by
  intro dE hs bQ i hi
  unfold Region.ready at hi
  rw [List.mem_filter] at hi
  obtain ⟨h1, h2⟩ := hi
  have h1 : i < ops.size := by simpa using h1
  rw [Bool.and_eq_true] at h2
  obtain ⟨h2, h3⟩ := h2
  refine ⟨h1, ?_, fun e he hb => ?_⟩
  ·simp only [gI, Array.getD_eq_getD_getElem?] at h2 ⊢
   rw [Array.getElem?_eq_getElem af] at h2 ⊢
   simpa using h2
  ·rw [Array.getElem?_eq_getElem h1] at h3 he
   simp only [Option.map_some, Option.getD_some, Option.elim_some] at h3 he
   have := (Array.all_eq_true_iff_forall_mem.1 h3) e he
   simpa [hb, gI] using this
 intro fuel
 induction fuel with
 | zero =>
  intro dE hs hf bQ a w1 μ1 p5 I
  have jO : ∀ i, i < ops.size -> gI dE i = true := by
   intro i hi
   have hz : dE.toList.countP (· == false) = 0 := af
   have hm : dE[i]' af ∈ dE.toList := by simp
   have := List.countP_eq_zero.1 hz _ hm
   simp only [gI, Array.getD_eq_getD_getElem?]
   rw [Array.getElem?_eq_getElem af]
   simpa using this
  refine ⟨?_, hQ _ _ _ _ _ jO I⟩
  rw [List.eq_nil_iff_forall_not_mem]
  intro i hi
  obtain ⟨h1, h2, _⟩ := step dE hs bQ i hi
  rw [jO i h1] at h2; cases h2
 | succ fuel ih =>
  intro dE hs hf bQ a w1 μ1 p5 I
  refine ⟨fun Di => hQ _ _ _ _ _ (done dE hs Di) I, fun i hi => ?_⟩
  obtain ⟨h1, h2, h3⟩ := step dE hs bQ i hi
  refine L8 hn hr hW dO (Array.getElem?_eq_getElem h1) h2 (fun k ok hk eP hL => ?_) (fun k ok hk eP hL => ?_) I fun a' w' μ' cJ I' => ?_
  ·rcases yK k i hk h1 with h | h
   ·exfalso
    cases h with
    | one ho he hb h =>
     have := h3 _ (by rw [ho]; exact he) hb
     rw [h, hL] at this; cases this
    | more ho he hb h =>
     have := h.closed bQ (h3 _ (by rw [ho]; exact he) hb)
     rw [hL] at this; cases this
   ·exact ⟨h.apart _ _ eP (Array.getElem?_eq_getElem h1), h.read, h.write⟩
  ·have Sh : k < ops.size := (Array.getElem?_eq_some_iff.1 eP).1
   rcases yK i k hk Sh with h | h
   ·have := h.closed bQ hL
    rw [h2] at this; cases this
   ·exact ⟨h.apart _ _ (Array.getElem?_eq_getElem h1) eP, h.read, h.write⟩
  ·have e : gI (dE.setIfInBounds i true) = fQ (gI dE) i := by
    funext k
    simp only [gI, fQ, Array.getD_eq_getD_getElem?, Array.getElem?_setIfInBounds]
    by_cases vz : i = k
    ·subst vz; simp [hs, h1]
    ·have : ¬ k = i := fun e => vz e.symm
     simp [vz, this]
   refine ih _ (by simp [hs]) ?_ ?_ a' w' μ' cJ (by rw [e]; exact I')
   ·rw [Array.toList_setIfInBounds, List.countP_set (h := by simpa [hs] using h1)]
    have iV : dE.toList[i]'(by simpa [hs] using h1) = false := by
     simp only [gI, Array.getD_eq_getD_getElem?] at h2
     rw [Array.getElem?_eq_getElem af] at h2
     simpa using h2
    rw [iV]
    simp only [show (false == false) = true from rfl, show (true == false) = false from rfl, if_true, Bool.false_eq_true, if_false]
    omega
   ·rw [e]
    intro k o ed hk ho he hb
    simp only [fQ, Bool.or_eq_true, beq_iff_eq] at hk ⊢
    rcases hk with rfl | hk
    ·exact .inr (h3 ed (by rw [ho]; exact he) hb)
    ·exact .inr (bQ k o ed hk ho he hb)
end
end Go.Proofs.YtlomaojlpodibaaGreat

/-
  The ground for this claim's walks: rows of cells that are the call's own, 'append' onto them, bytes and strings, what a call may have turned.
  A small evaluator over values whose addresses are names: values, how they stand for the machine's values, what a step may change.
  The small evaluator: its plain operations.
  The small evaluator's plain operations do what the machine does.
  The small evaluator's operations on memory do what the machine does.
  The small evaluator's appends, conversions, slices and comparisons do what the machine does.
-/
import Derived.Test.YtfncaghjfgnnhaaGreatDoorRows
import Derived.WalkKit
import Derived.WalkSpells
import Derived.WalkLawsBesides
import Derived.BigQuiet
import Derived.Lib.Hide
import Derived.Deep.CutRange
import Derived.Deep.DeepCutAuto
import Derived.Deep.LoopGhost
import Derived.Lib.LaidTab
import Derived.Lib.ItoaNum
import Derived.Deep.MidRow
import Derived.Great.FillDense
import Derived.Laws.StructEq
import Derived.Laws.Cover3
import Derived.Laws.MakeOwn
namespace Go.Proofs.YtfncaghjfgnnhaaGreatDoor
open Go.RowKit
set_option maxRecDepth 100000
def Row (w : World) (g : Nat) (e : TypeId) (cur : Array Value) : Prop := ∃ fr : Nat × Nat, w.heap[g]? = some (.cells cur e fr) ∧ (fr.2 ≤ fr.1 ∨ cur.size ≤ fr.1)
section
variable {w w' : World} {g : Nat} {e : TypeId} {cur : Array Value}
theorem Row.lt (h : Row w g e cur) : g < w.heap.size := by
 obtain ⟨fr, h, _⟩ := h
 exact (Array.getElem?_eq_some_iff.1 h).1
theorem Row.cell (h : Row w g e cur) (i : Nat) : w.cell? ⟨g, i, none⟩ = cur[i]? := by
 obtain ⟨fr, h, _⟩ := h
 simp [World.cell?, h]
theorem Row.free (h : Row w g e cur) (i : Nat) (hi : i < cur.size) : w.frozen? ⟨g, i, none⟩ = false := by
 obtain ⟨⟨lo, hi'⟩, h, k⟩ := h
 simp only [World.frozen?, h]
 simp only at k
 rcases k with k | k <;> simp <;> omega
theorem Row.setRow_at (h : Row w g e cur) (next : Array Value) (hs : next.size = cur.size) : Row (w.setRow g next) g e next := by
 obtain ⟨fr, h, k⟩ := h
 exact ⟨fr, setRow_heap w g cur next e fr h, by rw [hs]; exact k⟩
end
theorem storeCells_row (P : Program) (g o : Nat) (t : TypeId) : ∀ (vs : List Value) (i : Nat) (cur : Array Value) (w : World), Row w g t cur → o + i + vs.length ≤ cur.size → (∀ v ∈ vs, v.oneCell' = true) →
  (storeCells ⟨g, o, none⟩ vs i).run P w = .ok () (w.setRow g (cur.toList.take (o + i) ++ vs ++ cur.toList.drop (o + i + vs.length)).toArray)
 | [], i, cur, w, ⟨fr, hg, _⟩, _, _ => by
  simp only [storeCells, List.append_nil, List.length_nil, Nat.add_zero, List.take_append_drop, Array.toArray_toList]
  rw [setRow_self w g cur t fr hg]
  rfl
 | v :: rest, i, cur, w, hr, hl, h1 => by
  have hi : o + i < cur.size := by simp at hl; omega
  have hadd : (⟨g, o, none⟩ : Addr).add i = ⟨g, o + i, none⟩ := by unfold Addr.add; split <;> simp_all
  have hcell : w.cell? ⟨g, o + i, none⟩ = some cur[o + i] := by rw [hr.cell]; simp [hi]
  have hfro : w.frozen? ⟨g, o + i, none⟩ = false := hr.free _ hi
  have hst : (store ((⟨g, o, none⟩ : Addr).add i) v).run P w = .ok () (w.setRow g (cur.setIfInBounds (o + i) v)) := by
   obtain ⟨fr, hg, _⟩ := hr
   rw [hadd, run_store P w _ v _ (h1 v (by simp)), hcell]
   simp [hfro, setCell_eq_setRow w g (o + i) cur t fr v hg]
  have ih := storeCells_row P g o t rest (i + 1) (cur.setIfInBounds (o + i) v) (w.setRow g (cur.setIfInBounds (o + i) v)) (hr.setRow_at _ (by simp)) (by simp at hl ⊢; omega) (fun x hx => h1 x (by simp [hx]))
  simp only [storeCells, Sem.run_bind, hst, Result.andThen_ok, ih, setRow_setRow]
  congr 3
  have e := list_seg_step cur.toList (o + i) v rest (by simp at hl ⊢; omega)
  simpa [Array.toList_setIfInBounds, Nat.add_assoc] using e
def Lies (w : World) (a : Option Addr) (xs : List Value) : Prop := xs = [] ∨ ∃ ad, a = some ad ∧ ad.block < w.heap.size ∧ ∀ j u, xs[j]? = some u → w.cell? (ad.add j) = some u
section
variable {w w' : World} {lo : Nat} {e : TypeId} {size : Nat} {v : Value} {n : Nat} {xs : List Value}
end
section
variable {P : Program} {ops : Array Oper} {rest : List Oper} {o : Oper} {a : Act} {w : World} {Q : Exit → Act → World → Prop} {K : Act → World → Prop}
end
def bv (l : List UInt8) : List Value := l.map fun b => .int .u8 b.toNat
theorem run_string_of {P : Program} (w : World) (src dst e : TypeId) (hs : P.underlying src = some (.slice e)) (he : P.underlying e = some (.int .u8)) (hd : P.underlying dst = some .string)
  (a : Option Addr) (n cap : Nat) (l : List UInt8) (hn : n = l.length) (hl : Lies w a (bv l)) : (convert src dst (.slice a n cap)).run P w = .ok (.string ⟨l.toArray⟩) w := by
 subst hn
 rcases hl with h | ⟨ad, rfl, _, hc⟩
 ·have : l = [] := by simpa [bv] using h
  subst this
  cases a with
  | none => simp [convert, run_underlying hs, run_underlying hd, run_underlying he, Conv.bytesToString]; rfl
  | some ad => exact run_convert_bytes_back w src dst e ad cap [] hs he hd (by simp)
 ·exact run_convert_bytes_back w src dst e ad cap l hs he hd (fun j hj => hc j _ (by simp [bv, hj]))
theorem grown_below {w a : World} (h : w.grownBy a none) : Below w.heap.size w a := ⟨h.os, h.tape, h.output, h.size, fun k hk => h.block k hk (by simp)⟩
end Go.Proofs.YtfncaghjfgnnhaaGreatDoor

namespace Go.Proofs.YtfncaghjfgnnhaaGreatDoor
open Go.RowKit
set_option maxRecDepth 100000
inductive BK where
 | iface (t : TypeId)
 | bound (f : FuncId) (n : Nat)
 | map
def BK.mk : BK → Array Value → Value
 | .iface t, vs => .iface t (vs.getD 0 (.tuple #[]))
 | .bound f n, vs => .func (.func f) (vs.extract 0 n) (vs.extract n vs.size)
 | .map, vs => match vs.getD 0 (.tuple #[]) with
  | .pointer (some a) => .map (some a.block)
  | _ => .map none
inductive V where
 | int (k : IntKind) (n : Int)
 | bool (b : Bool)
 | str (s : List UInt8)
 | nilp
 | ptr (b off : Nat)
 | sl (b off n : Nat) (full : Bool)
 | dsl (n : Nat) (full : Bool) (cs : List V)
 | dptr (cs : List V)
 | sld (cs : List V)
 | slo (cs : List V)
 | agg (cs : List V)
 | tup (vs : List V)
 | fn (f : FuncId) (cap : List V)
 | box (k : BK) (cs : List V)
 | eptr (b base rel : Nat)
 | osl (T : TypeId) (n : Nat) (o : Bool) (cs : List V)
 | nilf
 | lit (v : Value)
 | junk
abbrev Blk := List V × TypeId
abbrev Hp := List (Option Blk)
def ofScalar : Value → V
 | .int k n => .int k n
 | .bool b => .bool b
 | .string s => .str s.data.toList
 | .pointer none => .nilp
 | .slice none 0 0 => .dsl 0 true []
 | .nilFunc => .nilf
 | .nilIface => .lit .nilIface
 | .map none => .lit (.map none)
 | _ => .junk
def ofValue : Value → V
 | .agg cs => .agg (cs.toList.map ofScalar)
 | v => ofScalar v
mutual
def V.refs : V → List Nat
 | .ptr b _ => [b]
 | .sl b _ _ _ => [b]
 | .agg cs => V.refsL cs
 | .tup cs => V.refsL cs
 | .fn _ cs => V.refsL cs
 | .box _ cs => V.refsL cs
 | .eptr b _ _ => [b]
 | _ => []
def V.refsL : List V → List Nat
 | [] => []
 | c :: cs => V.refs c ++ V.refsL cs
end
structure Mu where
 nm : Nat → Option Nat
 ft : Nat → List Nat
instance : CoeFun Mu (fun _ => Nat → Option Nat) := ⟨Mu.nm⟩
def Mu.own (μ : Mu) (b g : Nat) : Prop := μ b = some g ∨ g ∈ μ.ft b
def noMu : Mu := ⟨fun _ => none, fun _ => []⟩
def Nilish (v : Value) : Prop := ∃ a, v = .slice a 0 0 ∧ (a = none ∨ ∃ g off, a = some ⟨g, off, none⟩)
mutual
def V.R (P : Program) (I : Nat → Prop) : Mu → World → V → Value → Prop
 | _, _, .int k n, v => v = .int k n
 | _, _, .bool b, v => v = .bool b
 | _, _, .str s, v => v = .string ⟨s.toArray⟩
 | _, _, .nilp, v => v = .pointer none
 | μ, _, .ptr b off, v => ∃ g, μ b = some g ∧ v = .pointer (some ⟨g, off, none⟩)
 | μ, w, .sl b off n full, v => (∃ g cap e N i, μ b = some g ∧ v = .slice (some ⟨g, off, none⟩) n cap ∧ n ≤ cap ∧ cap ≤ maxLen ∧ (full = true → cap = n) ∧ w.shape? g = some (e, N) ∧ P.info? e = some i ∧ off + cap * i.size ≤ N) ∨ (off = 0 ∧ n = 0 ∧ Nilish v)
 | _, w, .dsl n full cs, v => ∃ a cap, v = .slice a n cap ∧ n ≤ cap ∧ (full = true → cap = n) ∧ (a = none ∧ cap = 0 ∨ ∃ g off, a = some ⟨g, off, none⟩) ∧ (cs = [] ∨ n = 0 ∨ ∃ g off, a = some ⟨g, off, none⟩ ∧ I g ∧ ∃ cells e fr, w.heap[g]? = some (.cells cells e fr) ∧ V.RL P I noMu w cs ((cells.toList.drop off).take cs.length))
 | _, w, .dptr cs, v => ∃ g off, v = .pointer (some ⟨g, off, none⟩) ∧ (cs = [] ∨ I g ∧ ∃ cells e fr, w.heap[g]? = some (.cells cells e fr) ∧ V.RL P I noMu w cs ((cells.toList.drop off).take cs.length))
 | μ, _, .eptr b base rel, v => ∃ g, μ b = some g ∧ v = .pointer (some ⟨g, base + rel, none⟩)
 | _, _, .osl _ _ _ _, _ => False
 | _, _, .sld _, _ => False
 | _, _, .slo _, _ => False
 | μ, w, .agg cs, v => ∃ vs, v = .agg vs ∧ V.RL P I μ w cs vs.toList
 | μ, w, .tup cs, v => ∃ vs, v = .tuple vs ∧ V.RL P I μ w cs vs.toList
 | μ, w, .fn f cap, v => ∃ vs, v = .func (.func f) #[] vs ∧ V.RL P I μ w cap vs.toList
 | μ, w, .box k cs, v => ∃ vs, v = k.mk vs ∧ V.RL P I μ w cs vs.toList
 | _, _, .nilf, v => v = .nilFunc
 | _, _, .lit u, v => v = u
 | _, _, .junk, _ => True
def V.RL (P : Program) (I : Nat → Prop) : Mu → World → List V → List Value → Prop
 | _, _, [], vs => vs = []
 | μ, w, c :: cs, vs => ∃ u us, vs = u :: us ∧ V.R P I μ w c u ∧ V.RL P I μ w cs us
end
section
variable {P : Program} {I I' : Nat → Prop} {μ μ' : Mu} {w w' : World}
structure Evo (I : Nat → Prop) (w w' : World) (X : Nat → Prop) : Prop where
 os : w'.os = w.os
 tape : w'.tape = w.tape
 output : w'.output = w.output
 size : w.heap.size ≤ w'.heap.size
 block : ∀ k, k < w.heap.size → ¬ X k → w'.heap[k]? = w.heap[k]?
 shape : ∀ k s, w.shape? k = some s → w'.shape? k = some s
 imm : ∀ k, I k → k < w.heap.size → w'.heap[k]? = w.heap[k]?
def tabs : List (String × IntKind × List Int) := [("internal/strconv.uint64pow10", .u64, Lib.pow10Tab)]
def errVars : List String := ["strconv.ErrSyntax", "strconv.ErrRange"]
structure ILt (P : Program) (I : Nat → Prop) (w : World) : Prop where
 lt : ∀ k, I k → k < w.heap.size
 laid : ∀ x ∈ tabs, ∀ g, P.globalNamed x.1 = some g → I g ∧ Lib.TabIs P w x.1 x.2.1 x.2.2
 errs : ∀ x ∈ errVars, ∀ g, P.globalNamed x = some g → I g ∧ ∃ ev, w.cell? ⟨g, 0, none⟩ = some ev ∧ (ev = .nilIface ∨ ∃ te pe, ev = .iface te pe)
instance (P : Program) (I : Nat → Prop) (w : World) : CoeFun (ILt P I w) (fun _ => ∀ k, I k → k < w.heap.size) := ⟨ILt.lt⟩
theorem ILt.step {P : Program} {w' : World} {X : Nat → Prop} (h : ILt P I w) (hE : Evo I w w' X) (hs : ∀ k, I k → I' k) (hlt : ∀ k, I' k → k < w'.heap.size) : ILt P I' w' :=
 ⟨hlt, fun x hx g hg => by
  obtain ⟨h1, h2⟩ := h.laid x hx g hg
  refine ⟨hs g h1, ?_⟩
  unfold Lib.TabIs World.var? at h2 ⊢
  rw [hg] at h2 ⊢
  simp only [Option.bind_some] at h2 ⊢
  rw [hE.imm g h1 (h.lt g h1)]; exact h2,
 fun x hx g hg => by
  obtain ⟨h1, ev, h2, h3⟩ := h.errs x hx g hg
  refine ⟨hs g h1, ev, ?_, h3⟩
  unfold World.cell? at h2 ⊢
  rw [hE.imm g h1 (h.lt g h1)]; exact h2⟩
def Sub (I I' : Nat → Prop) : Prop := ∀ k, I k → I' k
def MuLe (μ μ' : Mu) : Prop := ∀ b g, μ b = some g → μ' b = some g
theorem Sub.refl (I : Nat → Prop) : Sub I I := fun _ h => h
theorem Evo.refl (w : World) (X : Nat → Prop) : Evo I w w X := ⟨rfl, rfl, rfl, Nat.le_refl _, fun _ _ _ => rfl, fun _ _ h => h, fun _ _ _ => rfl⟩
theorem Evo.trans {a b c : World} {X Y : Nat → Prop} (h : Evo I a b X) (k : Evo I' b c Y) (hI : Sub I I') (hY : ∀ j, j < a.heap.size → Y j → X j) : Evo I a c X :=
 ⟨k.os.trans h.os, k.tape.trans h.tape, k.output.trans h.output, Nat.le_trans h.size k.size,
  fun j hj hn => (k.block j (Nat.lt_of_lt_of_le hj h.size) (fun hy => hn (hY j hj hy))).trans (h.block j hj hn), fun j s hs => k.shape j s (h.shape j s hs),
  fun j hi hj => (k.imm j (hI j hi) (Nat.lt_of_lt_of_le hj h.size)).trans (h.imm j hi hj)⟩
theorem Evo.mono {a b : World} {X Y : Nat → Prop} (h : Evo I a b X) (hXY : ∀ j, X j → Y j) : Evo I a b Y :=
 ⟨h.os, h.tape, h.output, h.size, fun j hj hn => h.block j hj (fun hx => hn (hXY j hx)), h.shape, h.imm⟩
theorem Evo.less {a b : World} {X : Nat → Prop} (h : Evo I' a b X) (hI : Sub I I') : Evo I a b X :=
 ⟨h.os, h.tape, h.output, h.size, h.block, h.shape, fun k hk => h.imm k (hI k hk)⟩
theorem MuLe.refl (μ : Mu) : MuLe μ μ := fun _ _ h => h
theorem MuLe.trans {a b c : Mu} (h : MuLe a b) (k : MuLe b c) : MuLe a c := fun x g e => k x g (h x g e)
theorem shape_of {g : Nat} {cs : Array Value} {e : TypeId} {fr : Nat × Nat} (h : w.heap[g]? = some (.cells cs e fr)) : w.shape? g = some (e, cs.size) := by
 simp [World.shape?, h]
theorem shape_lt {g : Nat} {s : TypeId × Nat} (h : w.shape? g = some s) : g < w.heap.size := by
 unfold World.shape? at h
 split at h
 ·rename_i hh; exact (Array.getElem?_eq_some_iff.1 hh).1
 ·cases h
theorem shape_alloc (w : World) (o : Obj) (k : Nat) (s : TypeId × Nat) (h : w.shape? k = some s) : (w.alloc o).shape? k = some s := by
 have := shape_lt h
 unfold World.shape? at *
 rw [Below.heap_alloc w o k this]
 exact h
theorem Evo.alloc (w : World) (o : Obj) (X : Nat → Prop) : Evo I w (w.alloc o) X :=
 ⟨rfl, rfl, rfl, by simp, fun k hk _ => Below.heap_alloc w o k hk, fun k s h => shape_alloc w o k s h, fun k _ hk => Below.heap_alloc w o k hk⟩
theorem Evo.drew (w : World) (X : Nat → Prop) : Evo I w w.drew X := ⟨rfl, rfl, rfl, Nat.le_refl _, fun _ _ _ => rfl, fun _ _ h => h, fun _ _ _ => rfl⟩
theorem Evo.setRow (w : World) (g : Nat) (old cs : Array Value) (e : TypeId) (fr : Nat × Nat) (hg : w.heap[g]? = some (.cells old e fr)) (hs : cs.size = old.size) (hI : ¬ I g) : Evo I w (w.setRow g cs) (fun k => k = g) := by
 refine ⟨rfl, rfl, rfl, by simp, fun k hk hn => setRow_other w g k cs hn, fun k s h => ?_, fun k hk _ => setRow_other w g k cs (by rintro rfl; exact hI hk)⟩
 by_cases hkg : k = g
 ·subst hkg
  rw [shape_of (setRow_heap w k old cs e fr hg), hs, ← shape_of hg, h]
 ·unfold World.shape? at *
  rw [setRow_other w g k cs hkg]
  exact h
mutual
theorem V.R.keep {X : Nat → Prop} (hE : Evo I w w' X) (hI : Sub I I') : ∀ {μ μ' : Mu} (_ : MuLe μ μ') (c : V) (v : Value), V.R P I μ w c v → V.R P I' μ' w' c v
 | _, _, hM, .int _ _, _, h => by simpa [V.R] using h
 | _, _, hM, .bool _, _, h => by simpa [V.R] using h
 | _, _, hM, .str _, _, h => by simpa [V.R] using h
 | _, _, hM, .nilp, _, h => by simpa [V.R] using h
 | _, _, hM, .ptr _ _, _, h => by
  simp only [V.R] at h ⊢
  obtain ⟨g, hg, h⟩ := h
  exact ⟨g, hM _ _ hg, h⟩
 | _, _, hM, .sl _ _ _ _, _, h => by
  simp only [V.R] at h ⊢
  rcases h with ⟨g, cap, e, N, i, h1, h2, h3, h4, h5, h6, h7⟩ | h
  ·exact .inl ⟨g, cap, e, N, i, hM _ _ h1, h2, h3, h4, h5, hE.shape _ _ h6, h7⟩
  ·exact .inr h
 | _, _, hM, .dsl _ _ cs, _, h => by
  simp only [V.R] at h ⊢
  obtain ⟨a, cap, h1, h2, h3, h3', h4⟩ := h
  refine ⟨a, cap, h1, h2, h3, h3', ?_⟩
  rcases h4 with h4 | h4 | ⟨g, off, h4', h4, cells, e, fr, h5, h6⟩
  ·exact .inl h4
  ·exact .inr (.inl h4)
  ·exact .inr <| .inr ⟨g, off, h4', hI _ h4, cells, e, fr, (hE.imm g h4 (Array.getElem?_eq_some_iff.1 h5).1).trans h5, V.RL.keep hE hI (MuLe.refl _) cs _ h6⟩
 | _, _, hM, .dptr cs, _, h => by
  simp only [V.R] at h ⊢
  obtain ⟨g, off, h1, h4⟩ := h
  refine ⟨g, off, h1, ?_⟩
  rcases h4 with h4 | ⟨h4, cells, e, fr, h5, h6⟩
  ·exact .inl h4
  ·exact .inr ⟨hI _ h4, cells, e, fr, (hE.imm g h4 (Array.getElem?_eq_some_iff.1 h5).1).trans h5, V.RL.keep hE hI (MuLe.refl _) cs _ h6⟩
 | _, _, hM, .eptr _ _ _, _, h => by
  simp only [V.R] at h ⊢
  obtain ⟨g, hg, h⟩ := h
  exact ⟨g, hM _ _ hg, h⟩
 | _, _, hM, .osl _ _ _ _, _, h => by simp [V.R] at h
 | _, _, hM, .sld _, _, h => by simp [V.R] at h
 | _, _, hM, .slo _, _, h => by simp [V.R] at h
 | _, _, hM, .agg cs, _, h => by
  simp only [V.R] at h ⊢
  obtain ⟨vs, h1, h2⟩ := h
  exact ⟨vs, h1, V.RL.keep hE hI hM cs _ h2⟩
 | _, _, hM, .tup cs, _, h => by
  simp only [V.R] at h ⊢
  obtain ⟨vs, h1, h2⟩ := h
  exact ⟨vs, h1, V.RL.keep hE hI hM cs _ h2⟩
 | _, _, hM, .fn _ cs, _, h => by
  simp only [V.R] at h ⊢
  obtain ⟨vs, h1, h2⟩ := h
  exact ⟨vs, h1, V.RL.keep hE hI hM cs _ h2⟩
 | _, _, hM, .box _ cs, _, h => by
  simp only [V.R] at h ⊢
  obtain ⟨vs, h1, h2⟩ := h
  exact ⟨vs, h1, V.RL.keep hE hI hM cs _ h2⟩
 | _, _, hM, .nilf, _, h => by simpa [V.R] using h
 | _, _, hM, .lit _, _, h => by simpa [V.R] using h
 | _, _, hM, .junk, _, _ => by simp [V.R]
theorem V.RL.keep {X : Nat → Prop} (hE : Evo I w w' X) (hI : Sub I I') : ∀ {μ μ' : Mu} (_ : MuLe μ μ') (cs : List V) (vs : List Value), V.RL P I μ w cs vs → V.RL P I' μ' w' cs vs
 | _, _, hM, [], _, h => by simpa [V.RL] using h
 | _, _, hM, c :: cs, _, h => by
  simp only [V.RL] at h ⊢
  obtain ⟨u, us, h1, h2, h3⟩ := h
  exact ⟨u, us, h1, V.R.keep hE hI hM c u h2, V.RL.keep hE hI hM cs us h3⟩
end
theorem noMu_le (μ : Mu) : MuLe noMu μ := fun _ _ h => (by cases h)
theorem R_up {c : V} {v : Value} (h : V.R P I noMu w c v) : V.R P I μ w c v := h.keep (.refl w (fun _ => False)) (.refl I) (noMu_le μ)
theorem RL_up {cs : List V} {vs : List Value} (h : V.RL P I noMu w cs vs) : V.RL P I μ w cs vs := h.keep (.refl w (fun _ => False)) (.refl I) (noMu_le μ)
theorem V.RL.length : ∀ {cs : List V} {vs : List Value}, V.RL P I μ w cs vs → vs.length = cs.length
 | [], _, h => by simp only [V.RL] at h; simp [h]
 | _ :: cs, _, h => by
  simp only [V.RL] at h
  obtain ⟨u, us, rfl, _, h⟩ := h
  simp [V.RL.length h]
theorem V.RL.get : ∀ {cs : List V} {vs : List Value}, V.RL P I μ w cs vs → ∀ {j : Nat} {c : V}, cs[j]? = some c → ∃ u, vs[j]? = some u ∧ V.R P I μ w c u
 | [], _, _, _, _, hj => by simp at hj
 | _ :: cs, _, h, j, c, hj => by
  simp only [V.RL] at h
  obtain ⟨u, us, rfl, h1, h⟩ := h
  cases j with
  | zero => simp at hj; subst hj; exact ⟨u, by simp, h1⟩
  | succ j => simpa using V.RL.get h (j := j) (by simpa using hj)
theorem V.RL.of : ∀ {cs : List V} {vs : List Value}, vs.length = cs.length → (∀ (j : Nat) (c : V) (u : Value), cs[j]? = some c → vs[j]? = some u → V.R P I μ w c u) → V.RL P I μ w cs vs
 | [], vs, hl, _ => by simp only [V.RL]; exact List.eq_nil_of_length_eq_zero (by simpa using hl)
 | c :: cs, [], hl, _ => by simp at hl
 | c :: cs, v :: vs, hl, h => by
  simp only [V.RL]
  exact ⟨v, vs, rfl, h 0 c v (by simp) (by simp), V.RL.of (by simpa using hl) fun j c u hc hu => h (j + 1) c u (by simpa using hc) (by simpa using hu)⟩
theorem V.RL.append {a b : List V} {va vb : List Value} (h : V.RL P I μ w a va) (k : V.RL P I μ w b vb) : V.RL P I μ w (a ++ b) (va ++ vb) := by
 refine .of (by simp [h.length, k.length]) fun j c u hc hu => ?_
 have hl := h.length
 rw [List.getElem?_append] at hc hu
 by_cases hj : j < a.length
 ·rw [if_pos hj] at hc
  rw [if_pos (by omega)] at hu
  obtain ⟨u', hu', hr⟩ := h.get hc
  rw [hu] at hu'; cases hu'; exact hr
 ·rw [if_neg hj] at hc
  rw [if_neg (by omega), hl] at hu
  obtain ⟨u', hu', hr⟩ := k.get hc
  rw [hu] at hu'; cases hu'; exact hr
theorem V.RL.drop {a : List V} {va : List Value} (h : V.RL P I μ w a va) (n : Nat) : V.RL P I μ w (a.drop n) (va.drop n) := by
 refine .of (by simp [h.length]) fun j c u hc hu => ?_
 rw [List.getElem?_drop] at hc hu
 obtain ⟨u', hu', hr⟩ := h.get hc
 rw [hu] at hu'; cases hu'; exact hr
theorem V.RL.take {a : List V} {va : List Value} (h : V.RL P I μ w a va) (n : Nat) : V.RL P I μ w (a.take n) (va.take n) := by
 refine .of (by simp [h.length]) fun j c u hc hu => ?_
 rw [List.getElem?_take] at hc hu
 split at hc
 ·rename_i hj
  rw [if_pos hj] at hu
  obtain ⟨u', hu', hr⟩ := h.get hc
  rw [hu] at hu'; cases hu'; exact hr
 ·cases hc
def V.seals : V → Option (Bool × List V)
 | .sld c => some (false, c)
 | .slo c => some (true, c)
 | _ => none
def mkS : Bool → List V → V
 | true, c => .slo c
 | false, c => .sld c
def flat : List V → List V
 | [] => []
 | x :: t => match x with
  | .sld c => match t with
   | [] => c
   | _ :: _ => c ++ flat t
  | .slo c => match t with
   | [] => c
   | _ :: _ => c ++ flat t
  | x => x :: flat t
theorem flat_sealO {o : Bool} {c : List V} : ∀ {t : List V}, flat (mkS o c :: t) = c ++ flat t
 | [] => by cases o <;> simp [flat, mkS]
 | y :: u => by cases o <;> rfl
theorem flat_seal {c t : List V} : flat (.sld c :: t) = c ++ flat t := flat_sealO (o := false)
def hasSeal : List V → Bool
 | [] => false
 | x :: t => match x with
  | .sld _ => true
  | .slo _ => true
  | _ => hasSeal t
theorem seals_mkS (o : Bool) (c : List V) : (mkS o c).seals = some (o, c) := by cases o <;> rfl
theorem seal_or (x : V) : (∃ o c, x = mkS o c) ∨ x.seals = none := by
 cases x <;> first | (exact .inr rfl) | (exact .inl ⟨false, _, rfl⟩) | (exact .inl ⟨true, _, rfl⟩)
theorem hasSeal_mkS {o : Bool} {c t : List V} : hasSeal (mkS o c :: t) = true := by cases o <;> rfl
theorem hasSeal_cons {x : V} {t : List V} (hx : x.seals = none) : hasSeal (x :: t) = hasSeal t := by
 cases x <;> first | rfl | simp [V.seals] at hx
theorem flat_cons {x : V} {t : List V} (hx : x.seals = none) : flat (x :: t) = x :: flat t := by
 cases x <;> first | rfl | simp [V.seals] at hx
theorem R_noS {c : V} {v : Value} (h : V.R P I μ w c v) : c.seals = none := by
 cases c <;> first | rfl | simp [V.R] at h
theorem flat_of_RL : ∀ {l : List V} {vs : List Value}, V.RL P I μ w l vs → flat l = l
 | [], _, _ => rfl
 | x :: t, _, h => by
  simp only [V.RL] at h
  obtain ⟨u, us, _, h1, h2⟩ := h
  rw [flat_cons (R_noS h1), flat_of_RL h2]
theorem noSeal_of_RL : ∀ {l : List V} {vs : List Value}, V.RL P I μ w l vs → hasSeal l = false
 | [], _, _ => rfl
 | x :: t, _, h => by
  simp only [V.RL] at h
  obtain ⟨u, us, _, h1, h2⟩ := h
  rw [hasSeal_cons (R_noS h1), noSeal_of_RL h2]
theorem flat_noSeal : ∀ {l : List V}, hasSeal l = false → flat l = l
 | [], _ => rfl
 | x :: t, h => by
  rcases seal_or x with ⟨o, c, rfl⟩ | hx
  ·rw [hasSeal_mkS] at h; cases h
  ·rw [hasSeal_cons hx] at h
   rw [flat_cons hx, flat_noSeal h]
def V.isO : V → Bool
 | .osl _ _ _ _ => true
 | _ => false
mutual
def V.O (P : Program) (I : Nat → Prop) (w : World) (F : List Nat) (c : V) (v : Value) : Prop := match c with
 | .osl T n o cs => (n = 0 ∧ F = [] ∧ Nilish v) ∨ ∃ g cap i cells fr F', v = .slice (some ⟨g, 0, none⟩) n cap ∧ F = g :: F' ∧ n ≤ cap ∧ cap ≤ maxLen ∧ P.info? T = some i ∧ w.heap[g]? = some (.cells cells T fr) ∧ (fr.2 ≤ fr.1 ∨ cells.size ≤ fr.1) ∧ cap * i.size ≤ cells.size ∧ cs.length ≤ cells.size ∧ (match o with
  | true => V.OL P I w F' cs (cells.toList.take cs.length)
  | false => F' = [] ∧ V.RL P I noMu w cs (cells.toList.take cs.length))
 | c => F = [] ∧ V.R P I noMu w c v
def V.OL (P : Program) (I : Nat → Prop) (w : World) (F : List Nat) (l : List V) (vs : List Value) : Prop := match l with
 | [] => F = [] ∧ vs = []
 | c :: cs => ∃ u us F1 F2, vs = u :: us ∧ F = F1 ++ F2 ∧ V.O P I w F1 c u ∧ V.OL P I w F2 cs us
end
def OS (P : Program) (I : Nat → Prop) (w : World) : Bool → List Nat → List V → List Value → Prop
 | true, F, c, us => V.OL P I w F c us
 | false, F, c, us => F = [] ∧ V.RL P I noMu w c us
theorem O_osl {F : List Nat} {T : TypeId} {n : Nat} {o : Bool} {cs : List V} {v : Value} : V.O P I w F (.osl T n o cs) v ↔ (n = 0 ∧ F = [] ∧ Nilish v) ∨ ∃ g cap i cells fr F', v = .slice (some ⟨g, 0, none⟩) n cap ∧ F = g :: F' ∧ n ≤ cap ∧ cap ≤ maxLen ∧ P.info? T = some i ∧ w.heap[g]? = some (.cells cells T fr) ∧ (fr.2 ≤ fr.1 ∨ cells.size ≤ fr.1) ∧ cap * i.size ≤ cells.size ∧ cs.length ≤ cells.size ∧ OS P I w o F' cs (cells.toList.take cs.length) := by
 cases o <;> (rw [V.O]; rfl)
theorem O_plain {F : List Nat} {c : V} {v : Value} (h : c.isO = false) : V.O P I w F c v ↔ F = [] ∧ V.R P I noMu w c v := by
 cases c
 case osl => simp [V.isO] at h
 all_goals
  rw [V.O]
  all_goals (intro T n o cs e; cases e)
theorem OL_nil {F : List Nat} {vs : List Value} : V.OL P I w F [] vs ↔ F = [] ∧ vs = [] := by rw [V.OL]
theorem OL_cons {F : List Nat} {c : V} {cs : List V} {vs : List Value} : V.OL P I w F (c :: cs) vs ↔ ∃ u us F1 F2, vs = u :: us ∧ F = F1 ++ F2 ∧ V.O P I w F1 c u ∧ V.OL P I w F2 cs us := by rw [V.OL]
theorem V.OL.length : ∀ {cs : List V} {F : List Nat} {vs : List Value}, V.OL P I w F cs vs → vs.length = cs.length
 | [], F, vs, h => by obtain ⟨_, rfl⟩ := OL_nil.1 h; rfl
 | c :: cs, F, vs, h => by
  obtain ⟨u, us, F1, F2, rfl, _, _, h⟩ := OL_cons.1 h
  simp [V.OL.length h]
theorem OL_append : ∀ {a b : List V} {F : List Nat} {vs : List Value}, V.OL P I w F (a ++ b) vs ↔ ∃ F1 F2 us us', vs = us ++ us' ∧ F = F1 ++ F2 ∧ V.OL P I w F1 a us ∧ V.OL P I w F2 b us'
 | [], b, F, vs => by
  simp only [List.nil_append]
  constructor
  ·exact fun h => ⟨[], F, [], vs, rfl, rfl, OL_nil.2 ⟨rfl, rfl⟩, h⟩
  ·rintro ⟨F1, F2, us, us', rfl, rfl, h1, h2⟩
   obtain ⟨rfl, rfl⟩ := OL_nil.1 h1
   exact h2
 | c :: a, b, F, vs => by
  rw [List.cons_append, OL_cons]
  constructor
  ·rintro ⟨u, us, F1, F2, rfl, rfl, h1, h2⟩
   obtain ⟨F3, F4, us1, us2, rfl, rfl, h3, h4⟩ := OL_append.1 h2
   exact ⟨F1 ++ F3, F4, u :: us1, us2, rfl, by simp, OL_cons.2 ⟨u, us1, F1, F3, rfl, rfl, h1, h3⟩, h4⟩
  ·rintro ⟨F1, F2, us, us', rfl, rfl, h1, h2⟩
   obtain ⟨u, us1, F3, F4, rfl, rfl, h3, h4⟩ := OL_cons.1 h1
   exact ⟨u, us1 ++ us', F3, F4 ++ F2, rfl, by simp, h3, OL_append.2 ⟨F4, F2, us1, us', rfl, rfl, h4, h2⟩⟩
theorem V.OL.append {a b : List V} {F G : List Nat} {va vb : List Value} (h : V.OL P I w F a va) (k : V.OL P I w G b vb) : V.OL P I w (F ++ G) (a ++ b) (va ++ vb) := OL_append.2 ⟨F, G, va, vb, rfl, rfl, h, k⟩
theorem V.OL.split {l : List V} {F : List Nat} {vs : List Value} (h : V.OL P I w F l vs) (n : Nat) : ∃ F1 F2, F = F1 ++ F2 ∧ V.OL P I w F1 (l.take n) (vs.take n) ∧ V.OL P I w F2 (l.drop n) (vs.drop n) := by
 rw [← List.take_append_drop n l] at h
 obtain ⟨F1, F2, us, us', rfl, rfl, h1, h2⟩ := OL_append.1 h
 have hl := h1.length
 refine ⟨F1, F2, rfl, ?_, ?_⟩
 ·by_cases hn : n ≤ l.length
  ·rw [List.take_left' (by rw [hl, List.length_take]; omega)]; exact h1
  ·have h0 : l.drop n = [] := List.drop_of_length_le (by omega)
   rw [h0] at h2
   obtain ⟨rfl, rfl⟩ := OL_nil.1 h2
   have e : us.take n = us := List.take_of_length_le (by rw [hl, List.length_take]; omega)
   rw [List.append_nil, e]; exact h1
 ·by_cases hn : n ≤ l.length
  ·rw [List.drop_left' (by rw [hl, List.length_take]; omega)]; exact h2
  ·have h0 : l.drop n = [] := List.drop_of_length_le (by omega)
   rw [h0] at h2 ⊢
   obtain ⟨rfl, rfl⟩ := OL_nil.1 h2
   rw [List.append_nil, List.drop_of_length_le (by rw [hl, List.length_take]; omega)]; exact OL_nil.2 ⟨rfl, rfl⟩
theorem R_noO {c : V} {v : Value} (h : V.R P I μ w c v) : c.isO = false := by cases c <;> first | rfl | simp [V.R] at h
theorem OL_ofRL : ∀ {cs : List V} {vs : List Value}, V.RL P I noMu w cs vs → V.OL P I w [] cs vs
 | [], vs, h => by simp only [V.RL] at h; exact OL_nil.2 ⟨rfl, h⟩
 | c :: cs, vs, h => by
  simp only [V.RL] at h
  obtain ⟨u, us, rfl, h1, h2⟩ := h
  exact OL_cons.2 ⟨u, us, [], [], rfl, rfl, (O_plain (R_noO h1)).2 ⟨rfl, h1⟩, OL_ofRL h2⟩
mutual
theorem V.O.keep {X : Nat → Prop} (hE : Evo I w w' X) (hI : Sub I I') : ∀ (c : V) (F : List Nat) (v : Value), (∀ k ∈ F, ¬ X k) → V.O P I w F c v → V.O P I' w' F c v
 | c, F, v, hX, h => by
  cases hc : c.isO with
  | false =>
   rw [O_plain hc] at h ⊢
   exact ⟨h.1, h.2.keep hE hI (.refl _)⟩
  | true => match c, hc with
   | .osl T n o cs, _ =>
    rw [O_osl] at h ⊢
    rcases h with h | ⟨g, cap, i, cells, fr, F', h1, rfl, h3, h4, h5, h6, h7, h8, h9, h10⟩
    ·exact .inl h
    ·refine .inr ⟨g, cap, i, cells, fr, F', h1, rfl, h3, h4, h5, (hE.block g (Array.getElem?_eq_some_iff.1 h6).1 (hX g (by simp))).trans h6, h7, h8, h9, ?_⟩
     cases o with
     | true => exact V.OL.keep hE hI cs F' _ (fun k hk => hX k (by simp [hk])) h10
     | false => exact ⟨h10.1, h10.2.keep hE hI (.refl _)⟩
theorem V.OL.keep {X : Nat → Prop} (hE : Evo I w w' X) (hI : Sub I I') : ∀ (cs : List V) (F : List Nat) (vs : List Value), (∀ k ∈ F, ¬ X k) → V.OL P I w F cs vs → V.OL P I' w' F cs vs
 | [], F, vs, _, h => by rw [OL_nil] at h ⊢; exact h
 | c :: cs, F, vs, hX, h => by
  rw [OL_cons] at h ⊢
  obtain ⟨u, us, F1, F2, rfl, rfl, h1, h2⟩ := h
  exact ⟨u, us, F1, F2, rfl, rfl, V.O.keep hE hI c F1 u (fun k hk => hX k (by simp [hk])) h1, V.OL.keep hE hI cs F2 us (fun k hk => hX k (by simp [hk])) h2⟩
end
def OX (P : Program) (I : Nat → Prop) (μ : Mu) (w : World) (F : List Nat) (c : V) (u : Value) : Prop := match c.isO with
 | true => V.O P I w F c u
 | false => F = [] ∧ V.R P I μ w c u
def OXL (P : Program) (I : Nat → Prop) (μ : Mu) (w : World) : List Nat → List V → List Value → Prop
 | F, [], vs => F = [] ∧ vs = []
 | F, c :: cs, vs => ∃ u us F1 F2, vs = u :: us ∧ F = F1 ++ F2 ∧ OX P I μ w F1 c u ∧ OXL P I μ w F2 cs us
def CR (P : Program) (I : Nat → Prop) (μ : Mu) (w : World) : List Nat → List V → List Value → Prop
 | F, [], vs => F = [] ∧ vs = []
 | F, x :: t, vs => match x.seals with
  | some (o, c) => ∃ us vs' F1 F2, vs = us ++ vs' ∧ F = F1 ++ F2 ∧ OS P I w o F1 c us ∧ CR P I μ w F2 t vs'
  | none => ∃ u us F1 F2, vs = u :: us ∧ F = F1 ++ F2 ∧ OX P I μ w F1 x u ∧ CR P I μ w F2 t us
theorem CR.sealO_iff {o : Bool} {F : List Nat} {c t : List V} {vs : List Value} : CR P I μ w F (mkS o c :: t) vs ↔ ∃ us vs' F1 F2, vs = us ++ vs' ∧ F = F1 ++ F2 ∧ OS P I w o F1 c us ∧ CR P I μ w F2 t vs' := by
 rw [CR, seals_mkS]
theorem CR.seal_iff {F : List Nat} {c t : List V} {vs : List Value} : CR P I μ w F (.sld c :: t) vs ↔ ∃ us vs', vs = us ++ vs' ∧ V.RL P I noMu w c us ∧ CR P I μ w F t vs' := by
 refine (CR.sealO_iff (o := false)).trans ⟨?_, ?_⟩
 ·rintro ⟨us, vs', F1, F2, rfl, rfl, ⟨rfl, h1⟩, h2⟩
  exact ⟨us, vs', rfl, h1, h2⟩
 ·rintro ⟨us, vs', rfl, h1, h2⟩
  exact ⟨us, vs', [], F, rfl, rfl, ⟨rfl, h1⟩, h2⟩
theorem CR.cons_iff {F : List Nat} {x : V} {t : List V} {vs : List Value} (hx : x.seals = none) : CR P I μ w F (x :: t) vs ↔ ∃ u us F1 F2, vs = u :: us ∧ F = F1 ++ F2 ∧ OX P I μ w F1 x u ∧ CR P I μ w F2 t us := by
 rw [CR, hx]
theorem CR.nil_iff {F : List Nat} {vs : List Value} : CR P I μ w F [] vs ↔ F = [] ∧ vs = [] := by simp only [CR]
theorem OS.toOL {o : Bool} {F : List Nat} {c : List V} {us : List Value} (h : OS P I w o F c us) : V.OL P I w F c us := by
 cases o
 ·obtain ⟨rfl, h⟩ := h; exact OL_ofRL h
 ·exact h
theorem OS.keep {X : Nat → Prop} (hE : Evo I w w' X) (hI : Sub I I') {o : Bool} {F : List Nat} {c : List V} {us : List Value} (hX : ∀ k ∈ F, ¬ X k) (h : OS P I w o F c us) : OS P I' w' o F c us := by
 cases o
 ·exact ⟨h.1, h.2.keep hE hI (.refl _)⟩
 ·exact V.OL.keep hE hI c F us hX h
theorem OX_ofR {c : V} {u : Value} (h : V.R P I μ w c u) : OX P I μ w [] c u := by
 unfold OX; rw [R_noO h]; exact ⟨rfl, h⟩
theorem OX_ofO {F : List Nat} {c : V} {u : Value} (h : V.O P I w F c u) : OX P I μ w F c u := by
 unfold OX
 cases hc : c.isO with
 | true => exact h
 | false =>
  obtain ⟨e, h3⟩ := (O_plain hc).1 h
  exact ⟨e, R_up h3⟩
theorem OX.plain {F : List Nat} {c : V} {u : Value} (h : OX P I μ w F c u) (hc : c.isO = false) : F = [] ∧ V.R P I μ w c u := by
 unfold OX at h; rwa [hc] at h
theorem OXL_ofRL : ∀ {cs : List V} {vs : List Value}, V.RL P I μ w cs vs → OXL P I μ w [] cs vs
 | [], vs, h => by simp only [V.RL] at h; exact ⟨rfl, h⟩
 | c :: cs, vs, h => by
  simp only [V.RL] at h
  obtain ⟨u, us, rfl, h1, h2⟩ := h
  exact ⟨u, us, [], [], rfl, rfl, OX_ofR h1, OXL_ofRL h2⟩
theorem OXL_ofOL : ∀ {cs : List V} {F : List Nat} {vs : List Value}, V.OL P I w F cs vs → OXL P I μ w F cs vs
 | [], F, vs, h => OL_nil.1 h
 | c :: cs, F, vs, h => by
  obtain ⟨u, us, F1, F2, h1, h2, h3, h4⟩ := OL_cons.1 h
  exact ⟨u, us, F1, F2, h1, h2, OX_ofO h3, OXL_ofOL h4⟩
theorem OXL.length : ∀ {cs : List V} {F : List Nat} {vs : List Value}, OXL P I μ w F cs vs → vs.length = cs.length
 | [], F, vs, h => by obtain ⟨_, rfl⟩ := h; rfl
 | c :: cs, F, vs, h => by
  obtain ⟨u, us, F1, F2, rfl, _, _, h⟩ := h
  simp [OXL.length h]
theorem OXL.append : ∀ {a b : List V} {F G : List Nat} {va vb : List Value}, OXL P I μ w F a va → OXL P I μ w G b vb → OXL P I μ w (F ++ G) (a ++ b) (va ++ vb)
 | [], b, F, G, va, vb, h, k => by obtain ⟨rfl, rfl⟩ := h; exact k
 | c :: a, b, F, G, va, vb, h, k => by
  obtain ⟨u, us, F1, F2, rfl, rfl, h1, h2⟩ := h
  exact ⟨u, us ++ vb, F1, F2 ++ G, rfl, by simp, h1, h2.append k⟩
theorem OXL.split : ∀ {l : List V} {F : List Nat} {vs : List Value}, OXL P I μ w F l vs → ∀ n : Nat, ∃ F1 F2, F = F1 ++ F2 ∧ OXL P I μ w F1 (l.take n) (vs.take n) ∧ OXL P I μ w F2 (l.drop n) (vs.drop n)
 | [], F, vs, h, n => by
  obtain ⟨rfl, rfl⟩ := h
  exact ⟨[], [], rfl, by simpa using ⟨rfl, rfl⟩, by simpa using ⟨rfl, rfl⟩⟩
 | c :: l, F, vs, h, 0 => ⟨[], F, rfl, ⟨rfl, rfl⟩, h⟩
 | c :: l, F, vs, h, n + 1 => by
  obtain ⟨u, us, F1, F2, rfl, rfl, h1, h2⟩ := h
  obtain ⟨G1, G2, rfl, h3, h4⟩ := h2.split n
  exact ⟨F1 ++ G1, G2, by simp, ⟨u, us.take n, F1, G1, rfl, rfl, h1, h3⟩, h4⟩
theorem OXL.toRL : ∀ {cs : List V} {F : List Nat} {vs : List Value}, OXL P I μ w F cs vs → (cs.all fun c => !c.isO) = true → F = [] ∧ V.RL P I μ w cs vs
 | [], F, vs, h, _ => by obtain ⟨rfl, rfl⟩ := h; simp [V.RL]
 | c :: cs, F, vs, h, ha => by
  obtain ⟨u, us, F1, F2, rfl, rfl, h1, h2⟩ := h
  rw [List.all_cons, Bool.and_eq_true] at ha
  obtain ⟨rfl, h3⟩ := h1.plain (by simpa using ha.1)
  obtain ⟨rfl, h4⟩ := h2.toRL ha.2
  refine ⟨rfl, ?_⟩
  simp only [V.RL]
  exact ⟨u, us, rfl, h3, h4⟩
theorem OXL.get : ∀ {cs : List V} {F : List Nat} {vs : List Value}, OXL P I μ w F cs vs → ∀ {j : Nat} {c : V}, cs[j]? = some c → c.isO = false → ∃ u, vs[j]? = some u ∧ V.R P I μ w c u
 | [], _, _, _, _, _, hj, _ => by simp at hj
 | _ :: cs, _, _, h, j, c, hj, hc => by
  obtain ⟨u, us, F1, F2, rfl, rfl, h1, h2⟩ := h
  cases j with
  | zero => simp at hj; subst hj; exact ⟨u, by simp, (h1.plain hc).2⟩
  | succ j => simpa using h2.get (j := j) (by simpa using hj) hc
theorem CR.toXL : ∀ {l : List V} {F : List Nat} {vs : List Value}, CR P I μ w F l vs → OXL P I μ w F (flat l) vs
 | [], F, _, h => CR.nil_iff.1 h
 | x :: t, F, vs, h => by
  rcases seal_or x with ⟨o, c, rfl⟩ | hx
  ·obtain ⟨us, vs', F1, F2, rfl, rfl, h1, h2⟩ := CR.sealO_iff.1 h
   rw [flat_sealO]; exact (OXL_ofOL h1.toOL).append (CR.toXL h2)
  ·obtain ⟨u, us, F1, F2, rfl, rfl, h1, h2⟩ := (CR.cons_iff hx).1 h
   rw [flat_cons hx]
   exact ⟨u, us, F1, F2, rfl, rfl, h1, CR.toXL h2⟩
theorem CR.length {l : List V} {F : List Nat} {vs : List Value} (h : CR P I μ w F l vs) : vs.length = (flat l).length := h.toXL.length
theorem CR.ofXL : ∀ {l : List V} {F : List Nat} {vs : List Value}, hasSeal l = false → OXL P I μ w F l vs → CR P I μ w F l vs
 | [], F, _, _, h => CR.nil_iff.2 h
 | x :: t, F, vs, hs, h => by
  obtain ⟨u, us, F1, F2, rfl, rfl, h1, h2⟩ := h
  have hx : x.seals = none := by
   rcases seal_or x with ⟨o, c, rfl⟩ | hx
   ·rw [hasSeal_mkS] at hs; cases hs
   ·exact hx
  have ht : hasSeal t = false := by rw [← hs, hasSeal_cons hx]
  exact (CR.cons_iff hx).2 ⟨u, us, F1, F2, rfl, rfl, h1, CR.ofXL ht h2⟩
theorem CR.of {l : List V} {vs : List Value} (h : V.RL P I μ w l vs) : CR P I μ w [] l vs := CR.ofXL (noSeal_of_RL h) (OXL_ofRL h)
theorem OX.keep {X : Nat → Prop} (hE : Evo I w w' X) (hI : Sub I I') (hM : MuLe μ μ') {F : List Nat} {c : V} {u : Value} (hX : ∀ k ∈ F, ¬ X k) (h : OX P I μ w F c u) : OX P I' μ' w' F c u := by
 unfold OX at h ⊢
 cases hc : c.isO with
 | true => rw [hc] at h; exact V.O.keep hE hI c F u hX h
 | false => rw [hc] at h; exact ⟨h.1, h.2.keep hE hI hM⟩
theorem CR.keep {X : Nat → Prop} (hE : Evo I w w' X) (hI : Sub I I') (hM : MuLe μ μ') : ∀ {l : List V} {F : List Nat} {vs : List Value}, (∀ k ∈ F, ¬ X k) → CR P I μ w F l vs → CR P I' μ' w' F l vs
 | [], F, _, _, h => by rw [CR.nil_iff] at h ⊢; exact h
 | x :: t, F, vs, hX, h => by
  rcases seal_or x with ⟨o, c, rfl⟩ | hx
  ·obtain ⟨us, vs', F1, F2, rfl, rfl, h1, h2⟩ := CR.sealO_iff.1 h
   exact CR.sealO_iff.2 ⟨us, vs', F1, F2, rfl, rfl, h1.keep hE hI (fun k hk => hX k (by simp [hk])), CR.keep hE hI hM (fun k hk => hX k (by simp [hk])) h2⟩
  ·obtain ⟨u, us, F1, F2, rfl, rfl, h1, h2⟩ := (CR.cons_iff hx).1 h
   exact (CR.cons_iff hx).2 ⟨u, us, F1, F2, rfl, rfl, h1.keep hE hI hM (fun k hk => hX k (by simp [hk])), CR.keep hE hI hM (fun k hk => hX k (by simp [hk])) h2⟩
theorem CR.append_iff : ∀ {a b : List V} {F : List Nat} {vs : List Value}, CR P I μ w F (a ++ b) vs ↔ ∃ F1 F2 us us', vs = us ++ us' ∧ F = F1 ++ F2 ∧ CR P I μ w F1 a us ∧ CR P I μ w F2 b us'
 | [], b, F, vs => by
  simp only [List.nil_append]
  constructor
  ·exact fun h => ⟨[], F, [], vs, rfl, rfl, CR.nil_iff.2 ⟨rfl, rfl⟩, h⟩
  ·rintro ⟨F1, F2, us, us', rfl, rfl, h1, h2⟩
   obtain ⟨rfl, rfl⟩ := CR.nil_iff.1 h1
   exact h2
 | x :: t, b, F, vs => by
  rw [List.cons_append]
  rcases seal_or x with ⟨o, c, rfl⟩ | hx
  ·rw [CR.sealO_iff]
   constructor
   ·rintro ⟨us, vs', F1, F2, rfl, rfl, h1, h2⟩
    obtain ⟨F3, F4, us1, us2, rfl, rfl, h3, h4⟩ := CR.append_iff.1 h2
    exact ⟨F1 ++ F3, F4, us ++ us1, us2, by simp, by simp, CR.sealO_iff.2 ⟨us, us1, F1, F3, rfl, rfl, h1, h3⟩, h4⟩
   ·rintro ⟨F1, F2, us, us', rfl, rfl, h1, h2⟩
    obtain ⟨us1, us2, F3, F4, rfl, rfl, h3, h4⟩ := CR.sealO_iff.1 h1
    exact ⟨us1, us2 ++ us', F3, F4 ++ F2, by simp, by simp, h3, CR.append_iff.2 ⟨F4, F2, us2, us', rfl, rfl, h4, h2⟩⟩
  ·rw [CR.cons_iff hx]
   constructor
   ·rintro ⟨u, us, F1, F2, rfl, rfl, h1, h2⟩
    obtain ⟨F3, F4, us1, us2, rfl, rfl, h3, h4⟩ := CR.append_iff.1 h2
    exact ⟨F1 ++ F3, F4, u :: us1, us2, rfl, by simp, (CR.cons_iff hx).2 ⟨u, us1, F1, F3, rfl, rfl, h1, h3⟩, h4⟩
   ·rintro ⟨F1, F2, us, us', rfl, rfl, h1, h2⟩
    obtain ⟨u, us1, F3, F4, rfl, rfl, h3, h4⟩ := (CR.cons_iff hx).1 h1
    exact ⟨u, us1 ++ us', F3, F4 ++ F2, rfl, by simp, h3, CR.append_iff.2 ⟨F4, F2, us1, us', rfl, rfl, h4, h2⟩⟩
theorem CR.append {a b : List V} {F G : List Nat} {va vb : List Value} (h : CR P I μ w F a va) (k : CR P I μ w G b vb) : CR P I μ w (F ++ G) (a ++ b) (va ++ vb) := CR.append_iff.2 ⟨F, G, va, vb, rfl, rfl, h, k⟩
theorem flat_append : ∀ (a b : List V), flat (a ++ b) = flat a ++ flat b
 | [], b => rfl
 | x :: t, b => by
  rcases seal_or x with ⟨o, c, rfl⟩ | hx
  ·rw [List.cons_append, flat_sealO, flat_sealO, flat_append t b, List.append_assoc]
  ·rw [List.cons_append, flat_cons hx, flat_cons hx, flat_append t b, List.cons_append]
theorem CR.sealedO {o : Bool} {c : List V} {F : List Nat} {vs : List Value} (h : OS P I w o F c vs) : CR P I μ w F [mkS o c] vs := CR.sealO_iff.2 ⟨vs, [], F, [], by simp, by simp, h, CR.nil_iff.2 ⟨rfl, rfl⟩⟩
theorem CR.sealed {c : List V} {vs : List Value} (h : V.RL P I noMu w c vs) : CR P I μ w [] [.sld c] vs := CR.sealedO (o := false) ⟨rfl, h⟩
def hasO (l : List V) : Bool := l.any fun x => match x with
 | .slo _ => true
 | .osl _ _ _ _ => true
 | _ => false
theorem CR.plainL : ∀ {l : List V} {F : List Nat} {vs : List Value}, hasO l = false → CR P I μ w F l vs → F = [] ∧ V.RL P I μ w (flat l) vs
 | [], F, vs, _, h => by obtain ⟨rfl, rfl⟩ := CR.nil_iff.1 h; simp [flat, V.RL]
 | x :: t, F, vs, ho, h => by
  unfold hasO at ho
  rw [List.any_cons, Bool.or_eq_false_iff] at ho
  rcases seal_or x with ⟨o, c, rfl⟩ | hx
  ·obtain ⟨us, vs', F1, F2, rfl, rfl, h1, h2⟩ := CR.sealO_iff.1 h
   obtain ⟨rfl, h3⟩ := CR.plainL ho.2 h2
   cases o
   ·obtain ⟨rfl, h1⟩ := h1
    rw [flat_sealO]
    exact ⟨rfl, (RL_up h1).append h3⟩
   ·simp [mkS] at ho
  ·obtain ⟨u, us, F1, F2, rfl, rfl, h1, h2⟩ := (CR.cons_iff hx).1 h
   obtain ⟨rfl, h3⟩ := CR.plainL ho.2 h2
   rw [flat_cons hx]
   have hn : x.isO = false := by cases x <;> first | rfl | simp at ho
   obtain ⟨rfl, h4⟩ := h1.plain hn
   refine ⟨rfl, ?_⟩
   simp only [V.RL]
   exact ⟨u, us, rfl, h4, h3⟩
def Cont (P : Program) (I : Nat → Prop) (μ : Mu) (w : World) (F : List Nat) (l : List V) (cs : Array Value) : Prop :=
 (flat l).length ≤ cs.size ∧ CR P I μ w F l (cs.toList.take (flat l).length)
def mapTid : TypeId := 4294967291
def MapR (P : Program) (I : Nat → Prop) (w : World) : List V → List MapEntry → Prop
 | [], es => es = []
 | [_], _ => False
 | k :: v :: l, es => ∃ e es', es = e :: es' ∧ V.R P I noMu w k e.key ∧ V.R P I noMu w v e.val ∧ MapR P I w l es'
theorem MapR.keep {X : Nat → Prop} (hE : Evo I w w' X) (hI : Sub I I') : ∀ {l : List V} {es : List MapEntry}, MapR P I w l es → MapR P I' w' l es
 | [], _, h => h
 | [_], _, h => h
 | _ :: _ :: l, _, h => by
  obtain ⟨e, es', h1, h2, h3, h4⟩ := h
  exact ⟨e, es', h1, h2.keep hE hI (.refl _), h3.keep hE hI (.refl _), MapR.keep hE hI h4⟩
def Holds (P : Program) (I : Nat → Prop) (μ : Mu) (w : World) (b : Nat) (blk : Blk) : Prop :=
 (∃ g cs fr, μ b = some g ∧ ¬ I g ∧ w.heap[g]? = some (.cells cs blk.2 fr) ∧ (fr.2 ≤ fr.1 ∨ cs.size ≤ fr.1) ∧ Cont P I μ w (μ.ft b) blk.1 cs ∧ (g :: μ.ft b).Nodup ∧ ∀ k ∈ μ.ft b, ¬ I k ∧ k < w.heap.size) ∨
 (μ b = none ∧ μ.ft b = []) ∨
 (∃ g es ck c, μ b = some g ∧ ¬ I g ∧ w.heap[g]? = some (.map es ck) ∧ blk = ([.sld (.slo [] :: c)], mapTid) ∧ MapR P I w c es.toList ∧ μ.ft b = [])
theorem Cont.of {l : List V} {cs : Array Value} (h4 : l.length ≤ cs.size) (h5 : V.RL P I μ w l (cs.toList.take l.length)) : Cont P I μ w [] l cs := by
 have e := flat_of_RL h5
 exact ⟨by rw [e]; exact h4, by rw [e]; exact .of h5⟩
theorem Cont.sld {c : List V} {cs : Array Value} (h4 : c.length ≤ cs.size) (h5 : V.RL P I noMu w c (cs.toList.take c.length)) : Cont P I μ w [] [.sld c] cs := by
 have e : flat [.sld c] = c := by simp [flat]
 exact ⟨by rw [e]; exact h4, by rw [e]; exact .sealed h5⟩
theorem Cont.keep {X : Nat → Prop} {F : List Nat} {l : List V} {cs : Array Value} (h : Cont P I μ w F l cs) (hX : ∀ k ∈ F, ¬ X k) (hE : Evo I w w' X) (hI : Sub I I') (hM : MuLe μ μ') : Cont P I' μ' w' F l cs := ⟨h.1, h.2.keep hE hI hM hX⟩
def rowT (T : TypeId) : Bool := !(Nat.beq T mapTid)
theorem Holds.realC {b g : Nat} {blk : Blk} {cs : Array Value} {T : TypeId} {fr : Nat × Nat} (h : Holds P I μ w b blk) (hg : μ b = some g) (hw : w.heap[g]? = some (.cells cs T fr)) : ∃ cs fr, ¬ I g ∧ w.heap[g]? = some (.cells cs blk.2 fr) ∧ (fr.2 ≤ fr.1 ∨ cs.size ≤ fr.1) ∧ Cont P I μ w (μ.ft b) blk.1 cs ∧ (g :: μ.ft b).Nodup ∧ ∀ k ∈ μ.ft b, ¬ I k ∧ k < w.heap.size := by
 rcases h with ⟨g', cs, fr, h1, h⟩ | ⟨h1, _⟩ | ⟨g', es, ck, c, h1, _, h2, _⟩
 ·rw [hg] at h1; cases h1
  exact ⟨cs, fr, h⟩
 ·rw [hg] at h1; cases h1
 ·rw [hg] at h1; cases h1
  rw [hw] at h2; cases h2
theorem Holds.realS {b g : Nat} {blk : Blk} {s : TypeId × Nat} (h : Holds P I μ w b blk) (hg : μ b = some g) (hw : w.shape? g = some s) : ∃ cs fr, ¬ I g ∧ w.heap[g]? = some (.cells cs blk.2 fr) ∧ (fr.2 ≤ fr.1 ∨ cs.size ≤ fr.1) ∧ Cont P I μ w (μ.ft b) blk.1 cs ∧ (g :: μ.ft b).Nodup ∧ ∀ k ∈ μ.ft b, ¬ I k ∧ k < w.heap.size := by
 unfold World.shape? at hw
 split at hw
 ·rename_i hh; exact h.realC hg hh
 ·cases hw
theorem Holds.real {b g : Nat} {blk : Blk} (h : Holds P I μ w b blk) (hT : rowT blk.2 = true) (hg : μ b = some g) : ∃ cs fr, ¬ I g ∧ w.heap[g]? = some (.cells cs blk.2 fr) ∧ (fr.2 ≤ fr.1 ∨ cs.size ≤ fr.1) ∧ Cont P I μ w (μ.ft b) blk.1 cs ∧ (g :: μ.ft b).Nodup ∧ ∀ k ∈ μ.ft b, ¬ I k ∧ k < w.heap.size := by
 rcases h with ⟨g', cs, fr, h1, h⟩ | ⟨h1, _⟩ | ⟨g', es, ck, c, h1, _, _, rfl, _⟩
 ·rw [hg] at h1; cases h1
  exact ⟨cs, fr, h⟩
 ·rw [hg] at h1; cases h1
 ·simp [rowT, mapTid] at hT
theorem Holds.keep {X : Nat → Prop} {b : Nat} {blk : Blk} (h : Holds P I μ w b blk) (hE : Evo I w w' X) (hI : Sub I I') (hM : MuLe μ μ') (h0 : μ b = none → μ' b = none) (hf : μ'.ft b = μ.ft b) (hX : ∀ g, μ.own b g → ¬ X g) (hn : ∀ g, μ.own b g → ¬ I' g) : Holds P I' μ' w' b blk := by
 rcases h with ⟨g, cs, fr, h1, _, h2, h3, h4, h5, h6⟩ | ⟨h1, h3⟩ | ⟨g, es, ck, c, h1, _, h2, h3, h4, h5⟩
 ·refine .inl ⟨g, cs, fr, hM _ _ h1, hn g (.inl h1), (hE.block g (Array.getElem?_eq_some_iff.1 h2).1 (hX g (.inl h1))).trans h2, h3, ?_, by rw [hf]; exact h5, fun k hk => ?_⟩
  ·rw [hf]; exact h4.keep (fun k hk => hX k (.inr hk)) hE hI hM
  ·rw [hf] at hk
   exact ⟨hn k (.inr hk), Nat.lt_of_lt_of_le (h6 k hk).2 hE.size⟩
 ·exact .inr (.inl ⟨h0 h1, by rw [hf]; exact h3⟩)
 ·exact .inr (.inr ⟨g, es, ck, c, hM _ _ h1, hn g (.inl h1), (hE.block g (Array.getElem?_eq_some_iff.1 h2).1 (hX g (.inl h1))).trans h2, h3, h4.keep hE hI, by rw [hf]; exact h5⟩)
theorem Holds.lt {b g : Nat} {blk : Blk} (h : Holds P I μ w b blk) (hg : μ.own b g) : g < w.heap.size := by
 rcases h with ⟨g', cs, fr, h1, _, h2, _, _, _, h6⟩ | ⟨h1, h3⟩ | ⟨g', es, ck, c, h1, _, h2, _, _, h3⟩
 ·rcases hg with hg | hg
  ·rw [hg] at h1; cases h1
   exact (Array.getElem?_eq_some_iff.1 h2).1
  ·exact (h6 g hg).2
 ·rcases hg with hg | hg
  ·rw [hg] at h1; cases h1
  ·rw [h3] at hg; cases hg
 ·rcases hg with hg | hg
  ·rw [hg] at h1; cases h1
   exact (Array.getElem?_eq_some_iff.1 h2).1
  ·rw [h3] at hg; cases hg
theorem Holds.nimm {b g : Nat} {blk : Blk} (h : Holds P I μ w b blk) (hg : μ.own b g) : ¬ I g := by
 rcases h with ⟨g', cs, fr, h1, h0, h2, _, _, _, h6⟩ | ⟨h1, h3⟩ | ⟨g', es, ck, c, h1, h0, h2, _, _, h3⟩
 ·rcases hg with hg | hg
  ·rw [hg] at h1; cases h1
   exact h0
  ·exact (h6 g hg).1
 ·rcases hg with hg | hg
  ·rw [hg] at h1; cases h1
  ·rw [h3] at hg; cases hg
 ·rcases hg with hg | hg
  ·rw [hg] at h1; cases h1
   exact h0
  ·rw [h3] at hg; cases hg
theorem Holds.cell {b : Nat} {blk : Blk} (h : Holds P I μ w b blk) (hT : rowT blk.2 = true) {g : Nat} (hg : μ b = some g) {j : Nat} {c : V} (hj : (flat blk.1)[j]? = some c) (hc : c.isO = false) : ∃ u, w.cell? ⟨g, j, none⟩ = some u ∧ V.R P I μ w c u := by
 obtain ⟨cs, fr, _, h2, _, ⟨h4, h5⟩, _⟩ := h.real hT hg
 obtain ⟨u, hu, hr⟩ := h5.toXL.get hj hc
 rw [List.getElem?_take] at hu
 split at hu
 ·exact ⟨u, by simpa [World.cell?, h2] using hu, hr⟩
 ·cases hu
def V.one : V → Bool
 | .agg _ | .tup _ | .junk | .sld _ | .slo _ | .osl _ _ _ _ => false
 | .lit v => v.oneCell'
 | _ => true
theorem V.one_cell {c : V} {v : Value} (h : V.R P I μ w c v) (h1 : c.one = true) : v.oneCell' = true ∧ v.cells = #[v] := by
 cases c <;> simp only [V.one, Bool.false_eq_true] at h1 <;> simp only [V.R] at h
 all_goals (first
  | (subst h; exact ⟨rfl, rfl⟩)
  | (obtain ⟨g, _, rfl⟩ := h; exact ⟨rfl, rfl⟩)
  | (rcases h with ⟨g, cap, e, N, i, _, rfl, _⟩ | ⟨_, _, a, rfl, _⟩ <;> exact ⟨rfl, rfl⟩)
  | (obtain ⟨a, cap, rfl, _⟩ := h; exact ⟨rfl, rfl⟩)
  | (obtain ⟨g, off, rfl, _⟩ := h; exact ⟨rfl, rfl⟩)
  | (obtain ⟨vs, rfl, _⟩ := h; exact ⟨rfl, rfl⟩)
  | (rename_i k _; obtain ⟨vs, rfl, _⟩ := h; cases k <;> first | exact ⟨rfl, rfl⟩ | (simp only [BK.mk]; split <;> exact ⟨rfl, rfl⟩))
  | (subst h; refine ⟨h1, ?_⟩; cases v <;> simp_all [Value.oneCell', Value.cells]))
mutual
theorem R_nomu : ∀ (v : V) (u : Value), v.refs = [] → V.R P I μ w v u → V.R P I noMu w v u
 | .int _ _, _, _, h => by simpa only [V.R] using h
 | .bool _, _, _, h => by simpa only [V.R] using h
 | .str _, _, _, h => by simpa only [V.R] using h
 | .nilp, _, _, h => by simpa only [V.R] using h
 | .ptr _ _, _, hr, _ => by simp [V.refs] at hr
 | .sl _ _ _ _, _, hr, _ => by simp [V.refs] at hr
 | .dsl _ _ _, _, _, h => by simpa only [V.R] using h
 | .dptr _, _, _, h => by simpa only [V.R] using h
 | .eptr _ _ _, _, hr, _ => by simp [V.refs] at hr
 | .osl _ _ _ _, _, _, h => by simp [V.R] at h
 | .sld _, _, _, h => by simp [V.R] at h
 | .slo _, _, _, h => by simp [V.R] at h
 | .agg cs, _, hr, h => by
  simp only [V.refs] at hr
  simp only [V.R] at h ⊢
  obtain ⟨vs, h1, h2⟩ := h
  exact ⟨vs, h1, RL_nomu cs _ hr h2⟩
 | .tup cs, _, hr, h => by
  simp only [V.refs] at hr
  simp only [V.R] at h ⊢
  obtain ⟨vs, h1, h2⟩ := h
  exact ⟨vs, h1, RL_nomu cs _ hr h2⟩
 | .fn _ cs, _, hr, h => by
  simp only [V.refs] at hr
  simp only [V.R] at h ⊢
  obtain ⟨vs, h1, h2⟩ := h
  exact ⟨vs, h1, RL_nomu cs _ hr h2⟩
 | .box _ cs, _, hr, h => by
  simp only [V.refs] at hr
  simp only [V.R] at h ⊢
  obtain ⟨vs, h1, h2⟩ := h
  exact ⟨vs, h1, RL_nomu cs _ hr h2⟩
 | .nilf, _, _, h => by simpa only [V.R] using h
 | .lit _, _, _, h => by simpa only [V.R] using h
 | .junk, _, _, _ => by simp [V.R]
theorem RL_nomu : ∀ (cs : List V) (us : List Value), V.refsL cs = [] → V.RL P I μ w cs us → V.RL P I noMu w cs us
 | [], _, _, h => by simpa only [V.RL] using h
 | c :: cs, _, hr, h => by
  simp only [V.refsL, List.append_eq_nil_iff] at hr
  simp only [V.RL] at h ⊢
  obtain ⟨u, us', h1, h2, h3⟩ := h
  exact ⟨u, us', h1, R_nomu c u hr.1 h2, RL_nomu cs us' hr.2 h3⟩
end
theorem CR.nomu : ∀ {l : List V} {F : List Nat} {vs : List Value}, V.refsL l = [] → CR P I μ w F l vs → V.OL P I w F (flat l) vs
 | [], F, _, _, h => OL_nil.2 (CR.nil_iff.1 h)
 | x :: t, F, vs, hr, h => by
  simp only [V.refsL, List.append_eq_nil_iff] at hr
  rcases seal_or x with ⟨o, c, rfl⟩ | hx
  ·obtain ⟨us, vs', F1, F2, rfl, rfl, h1, h2⟩ := CR.sealO_iff.1 h
   rw [flat_sealO]; exact h1.toOL.append (CR.nomu hr.2 h2)
  ·obtain ⟨u, us, F1, F2, rfl, rfl, h1, h2⟩ := (CR.cons_iff hx).1 h
   rw [flat_cons hx]
   refine OL_cons.2 ⟨u, us, F1, F2, rfl, rfl, ?_, CR.nomu hr.2 h2⟩
   unfold OX at h1
   cases hc : x.isO with
   | true => rwa [hc] at h1
   | false => rw [hc] at h1; exact (O_plain hc).2 ⟨h1.1, R_nomu _ _ hr.1 h1.2⟩
theorem CR.nomuL : ∀ {l : List V} {F : List Nat} {vs : List Value}, V.refsL l = [] → hasO l = false → CR P I μ w F l vs → F = [] ∧ V.RL P I noMu w (flat l) vs
 | [], F, vs, _, _, h => by obtain ⟨rfl, rfl⟩ := CR.nil_iff.1 h; simp [flat, V.RL]
 | x :: t, F, vs, hr, ho, h => by
  simp only [V.refsL, List.append_eq_nil_iff] at hr
  unfold hasO at ho
  rw [List.any_cons, Bool.or_eq_false_iff] at ho
  rcases seal_or x with ⟨o, c, rfl⟩ | hx
  ·obtain ⟨us, vs', F1, F2, rfl, rfl, h1, h2⟩ := CR.sealO_iff.1 h
   obtain ⟨rfl, h3⟩ := CR.nomuL hr.2 ho.2 h2
   cases o
   ·obtain ⟨rfl, h1⟩ := h1
    rw [flat_sealO]
    exact ⟨rfl, h1.append h3⟩
   ·simp [mkS] at ho
  ·obtain ⟨u, us, F1, F2, rfl, rfl, h1, h2⟩ := (CR.cons_iff hx).1 h
   obtain ⟨rfl, h3⟩ := CR.nomuL hr.2 ho.2 h2
   rw [flat_cons hx]
   have hn : x.isO = false := by cases x <;> first | rfl | simp at ho
   obtain ⟨rfl, h4⟩ := h1.plain hn
   refine ⟨rfl, ?_⟩
   simp only [V.RL]
   exact ⟨u, us, rfl, R_nomu _ _ hr.1 h4, h3⟩
theorem CR.nomuS {l : List V} {F : List Nat} {vs : List Value} (hr : V.refsL l = []) (h : CR P I μ w F l vs) : OS P I w (hasO l) F (flat l) vs := by
 cases ho : hasO l with
 | true => exact h.nomu hr
 | false => exact h.nomuL hr ho
theorem OS.split {o : Bool} {F : List Nat} {l : List V} {vs : List Value} (h : OS P I w o F l vs) (n : Nat) : ∃ F1 F2, F = F1 ++ F2 ∧ OS P I w o F1 (l.take n) (vs.take n) ∧ OS P I w o F2 (l.drop n) (vs.drop n) := by
 cases o
 ·obtain ⟨rfl, h⟩ := h
  exact ⟨[], [], rfl, ⟨rfl, h.take n⟩, ⟨rfl, h.drop n⟩⟩
 ·exact V.OL.split h n
theorem R_ofScalar (v : Value) : V.R P I μ w (ofScalar v) v := by
 unfold ofScalar
 split <;> simp only [V.R]
 exact ⟨none, 0, rfl, Nat.le_refl _, fun _ => rfl, .inl ⟨rfl, rfl⟩, .inl trivial⟩
theorem RL_ofScalar : ∀ (l : List Value), V.RL P I μ w (l.map ofScalar) l
 | [] => by simp [V.RL]
 | v :: l => by simp only [List.map_cons, V.RL]; exact ⟨v, l, rfl, R_ofScalar v, RL_ofScalar l⟩
theorem R_ofValue (v : Value) : V.R P I μ w (ofValue v) v := by
 unfold ofValue
 split
 ·simp only [V.R]; exact ⟨_, rfl, RL_ofScalar _⟩
 ·exact R_ofScalar v
end
end Go.Proofs.YtfncaghjfgnnhaaGreatDoor

namespace Go.Proofs.YtfncaghjfgnnhaaGreatDoor
open Go.RowKit
set_option maxRecDepth 100000
structure Out where
 v : V
 hp : Hp
 acc : List Nat
 wr : List Nat
def rowD : TypeDesc → Bool
 | .struct _ | .array _ _ => true
 | _ => false
def szOf (P : Program) (t : TypeId) : Option Nat := (P.info? t).map (·.size)
def cellsV : V → List V
 | .agg cs => cs
 | c => [c]
def V.flat : V → Bool
 | .agg _ => true
 | c => c.one
def offs {α : Type} (base rel : Nat) (k : Nat → α) : α := match rel with
 | 0 => k base
 | r + 1 => k (base + (r + 1))
theorem offs_eq {α : Type} (base rel : Nat) (k : Nat → α) : offs base rel k = k (base + rel) := by cases rel <;> rfl
def V.asPtr : V → V
 | .eptr b base rel => offs base rel fun o => .ptr b o
 | v => v
def noOs (l : List V) : Bool := l.all fun c => !c.isO
def evLoad (P : Program) (hp : Hp) (t : TypeId) (x : V) : Option Out := match x.asPtr with
 | .ptr b off =>
  match hp[b]?, P.underlying t, szOf P t with
  | some (some blk), some d, some s =>
   match rowD d with
   | true => if (((flat blk.1).drop off).take s).length = s ∧ ((!hasO blk.1 || noOs (((flat blk.1).drop off).take s)) && rowT blk.2) = true then some ⟨.agg (((flat blk.1).drop off).take s), hp, [b], []⟩ else none
   | false => match (flat blk.1)[off]? with
    | some c => match c.isO || Nat.beq blk.2 mapTid with
     | false => some ⟨c, hp, [b], []⟩
     | true => none
    | none => none
  | _, _, _ => none
 | .dptr cs =>
  match P.underlying t, szOf P t with
  | some d, some s =>
   match rowD d with
   | true => if (cs.take s).length = s then some ⟨.agg (cs.take s), hp, [], []⟩ else none
   | false => match cs with
    | c :: _ => some ⟨c, hp, [], []⟩
    | [] => none
  | _, _ => none
 | _ => none
def spliceV (l : List V) (off s : Nat) (new : List V) : Option (List V) :=
 match hasSeal l with
 | false => some (l.take off ++ new ++ l.drop (off + s))
 | true => match V.refsL l with
  | [] => some (mkS (hasO l) ((flat l).take off) :: (new ++ [mkS (hasO l) ((flat l).drop (off + s))]))
  | _ => none
def evStore (P : Program) (hp : Hp) (t : TypeId) (x y : V) : Option Out :=
 match x.asPtr with
 | .ptr b off =>
  match hp[b]?, szOf P t with
  | some (some blk), some s =>
   if y.flat = true ∧ (cellsV y).length = s ∧ (cellsV y).all V.one = true ∧ off + s ≤ (flat blk.1).length ∧ rowT blk.2 = true then
    match spliceV blk.1 off s (cellsV y) with
    | some l => some ⟨.junk, hp.set b (some (l, blk.2)), [b], [b]⟩
    | none => none
   else none
  | _, _ => none
 | _ => none
def ofScalarN (v : Value) : V := match v with
 | .slice none 0 0 => .lit (.slice none 0 0)
 | v => ofScalar v
def zcells (P : Program) (t : TypeId) (z : Array Value) : List V := match szOf P t with
 | some s => match Nat.ble 65 s with
  | true => z.toList.map ofScalarN
  | false => z.toList.map ofScalar
 | none => z.toList.map ofScalar
def evAlloc (P : Program) (hp : Hp) (t : TypeId) : Option Out :=
 match (P.info? t).bind (·.zero) with
 | some z => some ⟨.ptr hp.length 0, hp ++ [some (zcells P t z.cells, t)], [], []⟩
 | none => none
def evBox (hp : Hp) (t : TypeId) (x : V) : Option Out :=
 if x.flat = true then some ⟨.ptr hp.length 0, hp ++ [some (cellsV x, t)], [], []⟩ else none
def fillV (place : Nat → Option (Nat × Nat)) (cells : List V) : List (Nat × V) → Option (List V)
 | [] => some cells
 | (i, x) :: rest =>
  match place i with
  | none => none
  | some (off, size) =>
   if x.flat = true ∧ (cellsV x).length = size ∧ off + size ≤ cells.length then fillV place (cells.take off ++ cellsV x ++ cells.drop (off + size)) rest
   else none
def evBuild (P : Program) (hp : Hp) (t : TypeId) (ps : List (Nat × V)) : Option Out :=
 match P.info? t, P.underlying t with
 | some it, some (.struct fields) =>
  match it.zero, fields.toList.mapM (fun f => (P.info? f.type).map fun i => (f.offset, i.size)) with
  | some z, some places =>
   match fillV (places[·]?) (zcells P t z.cells) ps with
   | some cells => some ⟨.agg cells, hp, [], []⟩
   | none => none
  | _, _ => none
 | _, _ => none
def zeros (z : List V) (n : Nat) : List V := (List.range n).map fun i => z.getD (i % z.length) .junk
def evBuildSlice (P : Program) (hp : Hp) (t : TypeId) (n : Nat) (ps : List (Nat × V)) : Option Out :=
 match P.underlying t with
 | some (.slice elem) =>
  match P.info? elem with
  | some i =>
   match i.zero with
   | some z =>
    if n * i.size ≤ 16777216 ∧ 0 < i.size ∧ z.cells.size = i.size then
     match fillV (fun k => some (k * i.size, i.size)) (zeros (z.cells.toList.map ofScalar) (n * i.size)) ps with
     | some cells => some ⟨.sl hp.length 0 n true, hp ++ [some (cells, elem)], [], []⟩
     | none => none
    else none
   | none => none
  | none => none
 | _ => none
def evMakeSlice (P : Program) (hp : Hp) (t : TypeId) : V → V → Option Out
 | .int _ l, .int _ c =>
  match P.underlying t with
  | some (.slice elem) =>
   match P.info? elem with
   | some i =>
    match i.zero with
    | some z =>
     if 0 ≤ l ∧ l ≤ c ∧ c ≤ 1048576 ∧ i.bytes ≤ 1048576 ∧ 0 < i.size ∧ z.cells.size = i.size then
      some ⟨.sl hp.length 0 l.toNat (l == c), hp ++ [some ([.sld (zeros (z.cells.toList.map ofScalar) (c.toNat * i.size))], elem)], [], []⟩
     else none
    | none => none
   | none => none
  | _ => none
 | _, _ => none
def cutV (l : List V) (off k : Nat) : List V := if off = 0 ∧ (flat l).length = k then l else ((flat l).drop off).take k
def srcV (hp : Hp) (size : Nat) : V → Option (List Nat × Nat × List V)
 | .sl b off m _ =>
  match hp[b]? with
  | some (some blk) => if (((flat blk.1).drop off).take (m * size)).length = m * size ∧ (((flat blk.1).drop off).take (m * size)).all V.one = true then some ([b], m, cutV blk.1 off (m * size)) else none
  | _ => none
 | .dsl m _ cs => if (cs.take (m * size)).length = m * size ∧ (cs.take (m * size)).all V.one = true then some ([], m, [.sld (cs.take (m * size))]) else none
 | _ => none
def evAppend (P : Program) (hp : Hp) (t t' : TypeId) (s x : V) : Option Out :=
 match P.underlying t with
 | some (.slice elem) =>
  match P.info? elem with
  | some i =>
   match i.zero, t == t' with
   | some z, true =>
    if 0 < i.size ∧ z.cells.size = i.size then
     match srcV hp i.size x with
     | some (bs, m, news) =>
      match s with
      | .sl b off n full =>
        match hp[b]? with
        | some (some blk) =>
         if (((flat blk.1).drop off).take (n * i.size)).length = n * i.size ∧ n + m ≤ maxLen ∧ (n + m) * i.bytes ≤ 140737488355328 ∧ blk.2 = elem ∧ off = 0 then
          some ⟨.sl hp.length 0 (n + m) false, hp.set b none ++ [some (cutV blk.1 0 (n * i.size) ++ news, elem)], b :: bs, [b]⟩
         else none
        | _ => none
      | .dsl n full cs =>
       match m with
       | 0 => some ⟨.dsl n full cs, hp, bs, []⟩
       | _ + 1 => if full = true ∧ (cs.take (n * i.size)).length = n * i.size ∧ n + m ≤ maxLen ∧ (n + m) * i.bytes ≤ 140737488355328 then
         some ⟨.sl hp.length 0 (n + m) false, hp ++ [some (.sld (cs.take (n * i.size)) :: news, elem)], bs, []⟩ else none
      | _ => none
     | none => none
    else none
   | _, _ => none
  | none => none
 | _ => none
def evLen (P : Program) (hp : Hp) (t : TypeId) : V → Option Out
 | .str l => match P.underlying t with
  | some .string => some ⟨.int .i64 l.length, hp, [], []⟩
  | _ => none
 | .sl _ _ n _ => match P.underlying t with
  | some (.slice _) => some ⟨.int .i64 n, hp, [], []⟩
  | _ => none
 | .dsl n _ _ => match P.underlying t with
  | some (.slice _) => some ⟨.int .i64 n, hp, [], []⟩
  | _ => none
 | _ => none
def flatEq (P : Program) (f : Field) (x y : V) : Option Bool :=
 match P.underlying f.type, x, y with
 | some (.int _), .int k a, .int k' b => if k = k' then some (a == b) else none
 | some .bool, .bool a, .bool b => some (a == b)
 | some .string, .str a, .str b => some (a == b)
 | _, _, _ => none
def flatEqs (P : Program) (xs ys : List V) : List Field → Option Bool
 | [] => some true
 | f :: fs =>
  if f.name = "_" then none else
  match xs[f.offset]?, ys[f.offset]? with
  | some x, some y =>
   match flatEq P f x y with
   | some true => flatEqs P xs ys fs
   | some false => some false
   | none => none
  | _, _ => none
def evCmp (op : BinOp) (a b : Int) : Option V :=
 match op with
 | .eql => some (.bool (a == b))
 | .neq => some (.bool (a != b))
 | .lss => some (.bool (decide (a < b)))
 | .leq => some (.bool (decide (a ≤ b)))
 | .gtr => some (.bool (decide (a > b)))
 | .geq => some (.bool (decide (a ≥ b)))
 | _ => none
def evStr (op : BinOp) (a b : List UInt8) : Option V :=
 match op with
 | .add => if a.length + b.length ≤ 4611686018427387904 then some (.str (a ++ b)) else none
 | .eql => some (.bool (a == b))
 | .neq => some (.bool !(a == b))
 | .lss => some (.bool (Op.bytesLess a b))
 | .leq => some (.bool (Op.bytesLess a b || a == b))
 | .gtr => some (.bool !(Op.bytesLess a b || a == b))
 | .geq => some (.bool !(Op.bytesLess a b))
 | _ => none
def evInt (op : BinOp) (k : IntKind) (a b : Int) : Option V :=
 match op with
 | .add => some (.int k (k.wrap (a + b)))
 | .sub => some (.int k (k.wrap (a - b)))
 | .mul => some (.int k (k.wrap (a * b)))
 | .quo => if b = 0 then none else some (.int k (k.wrap (a.tdiv b)))
 | .rem => if b = 0 then none else some (.int k (a.tmod b))
 | op => evCmp op a b
def evBin (P : Program) (op : BinOp) (t : TypeId) : V → V → Option V
 | .int k a, .int k' b => if k = k' then evInt op k a b else none
 | .str a, .str b => evStr op a b
 | .bool a, .bool b => match P.underlying t, op with
  | some .bool, .eql => some (.bool (a == b))
  | some .bool, .neq => some (.bool (!(a == b)))
  | _, _ => none
 | .agg xs, .agg ys => match P.underlying t, P.stoodInHeld t, P.eqGuardType P.depth t, op with
  | some (.struct fs), false, false, .eql => (flatEqs P xs ys fs.toList).map fun r => .bool r
  | some (.struct fs), false, false, .neq => (flatEqs P xs ys fs.toList).map fun r => .bool (!r)
  | _, _, _, _ => none
 | _, _ => none
def evUn (op : UnOp) : V → Option V
 | .int k n => match op with
  | .neg => some (.int k (k.wrap (0 - n)))
  | _ => none
 | .bool b => match op with
  | .not => some (.bool (!b))
  | _ => none
 | _ => none
def bytesV : List V → Option (List UInt8)
 | [] => some []
 | .int .u8 n :: cs => if 0 ≤ n ∧ n < 256 then (bytesV cs).map (UInt8.ofNat n.toNat :: ·) else none
 | _ => none
def evConv (P : Program) (hp : Hp) (s d : TypeId) : V → Option Out
 | .int _ n => match P.underlying s, P.underlying d with
  | some (.int _), some (.int k) => some ⟨.int k (k.wrap n), hp, [], []⟩
  | _, _ => none
 | .str l => match P.underlying s, P.underlying d with
  | some .string, some .string => some ⟨.str l, hp, [], []⟩
  | some .string, some (.slice e) => match P.underlying e, P.info? e with
   | some (.int .u8), some i => if l.length ≤ maxLen ∧ i.size = 1 then some ⟨.sl hp.length 0 l.length false, hp ++ [some ([.sld (l.map fun b => V.int .u8 b.toNat)], e)], [], []⟩ else none
   | _, _ => none
  | _, _ => none
 | .sl b off n _ => match P.underlying s, P.underlying d with
  | some (.slice e), some .string => match P.underlying e, hp[b]? with
   | some (.int .u8), some (some blk) =>
    if (((flat blk.1).drop off).take n).length = n then
     match bytesV (((flat blk.1).drop off).take n) with
     | some l => some ⟨.str l, hp, [b], []⟩
     | none => none
    else none
   | _, _ => none
  | _, _ => none
 | .dsl n _ cs => match P.underlying s, P.underlying d with
  | some (.slice e), some .string => match P.underlying e with
   | some (.int .u8) =>
    if (cs.take n).length = n then
     match bytesV (cs.take n) with
     | some l => some ⟨.str l, hp, [], []⟩
     | none => none
    else none
   | _ => none
  | _, _ => none
 | _ => none
def evBound (x : Option V) (dflt lim : Nat) : Option Nat :=
 match x with
 | none => some dflt
 | some (.int _ i) => if 0 ≤ i ∧ i ≤ lim then some i.toNat else none
 | _ => none
def evSlice (P : Program) (hp : Hp) (t : TypeId) (x : V) (lo hi mx : Option V) : Option Out :=
 match x, mx with
 | .str l, none =>
  match P.underlying t, evBound hi l.length l.length with
  | some .string, some h => match evBound lo 0 h with
   | some k => some ⟨.str ((l.take h).drop k), hp, [], []⟩
   | none => none
  | _, _ => none
 | .sl b off n full, none =>
  match P.underlying t, evBound hi n n, hp[b]? with
  | some (.slice e), some h, some (some blk) => match evBound lo 0 h, szOf P e, blk.2 == e with
   | some k, some s, true =>
    match lo with
    | none => some ⟨.sl b off h (full && h == n), hp, [b], []⟩
    | some _ => if k < h then some ⟨.sl b (off + k * s) (h - k) (full && h == n), hp, [b], []⟩ else some ⟨.dsl 0 (full && h == n) [], hp, [b], []⟩
   | _, _, _ => none
  | _, _, _ => none
 | .sl b off n _, some m =>
  match P.underlying t, evBound (some m) 0 n, hi, hp[b]? with
  | some (.slice e), some m, some hi, some (some blk) => match evBound (some hi) 0 m with
   | some h => match evBound lo 0 h, szOf P e, blk.2 == e with
    | some k, some s, true =>
     if k = h then some ⟨.dsl 0 (m == h) [], hp, [b], []⟩
     else some ⟨.sl b (off + k * s) (h - k) (m == h), hp, [b], []⟩
    | _, _, _ => none
   | none => none
  | _, _, _, _ => none
 | .dsl n full cs, none =>
  match P.underlying t, evBound hi n n with
  | some (.slice e), some h => match evBound lo 0 h, szOf P e with
   | some k, some s => some ⟨.dsl (h - k) (full && h == n) ((cs.take (h * s)).drop (k * s)), hp, [], []⟩
   | _, _ => none
  | _, _ => none
 | .dsl n _ cs, some m =>
  match P.underlying t, evBound (some m) 0 n, hi with
  | some (.slice e), some m, some hi => match evBound (some hi) 0 m with
   | some h => match evBound lo 0 h, szOf P e with
    | some k, some s => some ⟨.dsl (h - k) (m == h) ((cs.take (h * s)).drop (k * s)), hp, [], []⟩
    | _, _ => none
   | none => none
  | _, _, _ => none
 | _, _ => none
def fieldOf (P : Program) (t : TypeId) (f : Nat) : Option Field :=
 match P.underlying t with
 | some (.struct fields) => fields[f]?
 | _ => none
def partV (P : Program) (t : TypeId) (cs : List V) (off : Nat) : Option V :=
 match P.underlying t, szOf P t with
 | some d, some s => match rowD d with
  | true => some (.agg ((cs.drop off).take s))
  | false => cs[off]?
 | _, _ => none
def evIndex (P : Program) (t : TypeId) : V → V → Option V
 | .str l, .int _ i => match P.underlying t with
  | some .string => if 0 ≤ i then (l[i.toNat]?).map fun b => .int .u8 b.toNat else none
  | _ => none
 | _, _ => none
def evMin : V → V → Option V
 | .int k a, .int _ b => some (.int k (if b < a then b else a))
 | _, _ => none
def evMax : V → V → Option V
 | .int k a, .int _ b => some (.int k (if b > a then b else a))
 | _, _ => none
def evPlain (P : Program) (e : Operand → V) (hp : Hp) : Op → Option Out
 | .move x => some ⟨e x, hp, [], []⟩
 | .assign x => some ⟨e x, hp, [], []⟩
 | .pick c a b => match e c with
  | .bool t => some ⟨if t then e a else e b, hp, [], []⟩
  | _ => none
 | .alloc t => evAlloc P hp t
 | .box t x => evBox hp t (e x)
 | .build t ps => evBuild P hp t (ps.toList.map fun p => (p.1, e p.2))
 | .buildSlice t n ps => evBuildSlice P hp t n (ps.toList.map fun p => (p.1, e p.2))
 | .load t x => evLoad P hp t (e x)
 | .store t x y => evStore P hp t (e x) (e y)
 | .nilCheck x => match e x with
  | .ptr b off => some ⟨.ptr b off, hp, [], []⟩
  | .dptr cs => some ⟨.dptr cs, hp, [], []⟩
  | .eptr b base rel => some ⟨.eptr b base rel, hp, [], []⟩
  | _ => none
 | .binOp op t x y _ => (evBin P op t (e x) (e y)).map fun v => ⟨v, hp, [], []⟩
 | .unOp op _ x => (evUn op (e x)).map fun v => ⟨v, hp, [], []⟩
 | .convert s d x => evConv P hp s d (e x)
 | .makeFunc (.func f) first cap => match first.toList with
  | [] => some ⟨.fn f (cap.toList.map e), hp, [], []⟩
  | _ => none
 | .makeSlice t l c => evMakeSlice P hp t (e l) (e c)
 | .slice t x lo hi mx => evSlice P hp t (e x) (lo.map e) (hi.map e) (mx.map e)
 | .fieldAddr t x f => match e x, fieldOf P t f with
  | .ptr b off, some fd => match szOf P fd.type with
   | some (_ + 1) => some ⟨.ptr b (off + fd.offset), hp, [], []⟩
   | _ => none
  | .dptr cs, some fd => match szOf P fd.type with
   | some (_ + 1) => some ⟨.dptr (cs.drop fd.offset), hp, [], []⟩
   | _ => none
  | .eptr b base rel, some fd => match szOf P fd.type with
   | some (_ + 1) => some ⟨.eptr b base (rel + fd.offset), hp, [], []⟩
   | _ => none
  | _, _ => none
 | .field t x f => match e x, fieldOf P t f with
  | .agg cs, some fd => (partV P fd.type cs fd.offset).map fun v => ⟨v, hp, [], []⟩
  | _, _ => none
 | .indexAddr t x i => match e x, e i, P.underlying t with
  | .sl b off n _, .int _ i, some (.slice el) => match szOf P el with
   | some s => if 0 ≤ i ∧ i < n then some ⟨.eptr b (off + i.toNat * s) 0, hp, [], []⟩ else none
   | none => none
  | .dsl n _ cs, .int _ i, some (.slice el) => match szOf P el with
   | some s => if 0 ≤ i ∧ i < n then some ⟨.dptr (cs.drop (i.toNat * s)), hp, [], []⟩ else none
   | none => none
  | _, _, _ => none
 | .index t x i => (evIndex P t (e x) (e i)).map fun v => ⟨v, hp, [], []⟩
 | .extract x i => match e x with
  | .tup vs => (vs[i]?).map fun v => ⟨v, hp, [], []⟩
  | _ => none
 | .call c => match c.callee, c.args.toList, c.argTypes.toList with
  | .builtin .append, [s, x], [t, t'] => evAppend P hp t t' (e s) (e x)
  | .builtin .len, [x], [t] => evLen P hp t (e x)
  | .builtin .min, [x, y], _ => (evMin (e x) (e y)).map fun v => ⟨v, hp, [], []⟩
  | .builtin .max, [x, y], _ => (evMax (e x) (e y)).map fun v => ⟨v, hp, [], []⟩
  | _, _, _ => none
 | _ => none
end Go.Proofs.YtfncaghjfgnnhaaGreatDoor

namespace Go.Proofs.YtfncaghjfgnnhaaGreatDoor
open Go.RowKit
set_option maxRecDepth 100000
structure Pre (P : Program) (I : Nat → Prop) (μ : Mu) (w : World) (hp : Hp) (acc : List Nat) (top : Nat) : Prop where
 ilt : ILt P I w
 holds : ∀ b ∈ acc, ∀ blk, hp[b]? = some (some blk) → Holds P I μ w b blk
 inj : ∀ b ∈ acc, ∀ c ∈ acc, ∀ blk blk' g, b ≠ c → hp[b]? = some (some blk) → hp[c]? = some (some blk') → μ.own b g → μ.own c g → False
 fresh : ∀ b, hp.length ≤ b → b < top → μ b = none
structure Good (P : Program) (I I' : Nat → Prop) (μ μ' : Mu) (w w' : World) (hp hp' : Hp) (acc wr : List Nat) : Prop where
 isub : Sub I I'
 igrow : ∀ k, I' k → I k ∨ (w.heap.size ≤ k ∧ k < w'.heap.size) ∨ ∃ c ∈ wr, μ.own c k ∧ ∃ blk, hp[c]? = some (some blk)
 evo : Evo I w w' (fun k => ∃ b ∈ wr, μ.own b k)
 le : MuLe μ μ'
 dom : ∀ b g, μ' b = some g → μ b = some g ∨ (hp.length ≤ b ∧ b < hp'.length)
 ftd : ∀ b, b ∉ wr → ¬ (hp.length ≤ b ∧ b < hp'.length) → μ'.ft b = μ.ft b
 holds : ∀ b, (b ∈ acc ∨ hp.length ≤ b) → ∀ blk, hp'[b]? = some (some blk) → Holds P I' μ' w' b blk
 prov : ∀ b, (hp.length ≤ b ∨ b ∈ wr) → ∀ blk, hp'[b]? = some (some blk) → ∀ g, μ'.own b g → w.heap.size ≤ g ∨ ∃ c ∈ wr, μ.own c g ∧ ∃ blk, hp[c]? = some (some blk)
 inj : ∀ b c blk blk' g, b ≠ c → (b ∈ acc ∨ hp.length ≤ b) → (c ∈ acc ∨ hp.length ≤ c) → hp'[b]? = some (some blk) → hp'[c]? = some (some blk') → μ'.own b g → μ'.own c g → False
structure Tidy (hp hp' : Hp) (acc wr : List Nat) : Prop where
 len : hp.length ≤ hp'.length
 frame : ∀ b, b < hp.length → b ∉ wr → hp'[b]? = hp[b]?
 wracc : ∀ b ∈ wr, b ∈ acc
 accb : ∀ b ∈ acc, b < hp.length
 walive : ∀ b ∈ wr, ∃ blk, hp[b]? = some (some blk)
section
variable {P : Program} {I : Nat → Prop} {μ μ' : Mu} {w w' : World} {hp : Hp} {out : Out}
theorem Good.same {acc : List Nat} (hp : Hp) (pre : Pre P I μ w hp acc hp.length) : Good P I I μ μ w w hp hp acc [] := by
 refine ⟨.refl _, fun _ h => .inl h, .refl _ _, .refl _, fun b g h => .inl h, fun _ _ _ => rfl, fun b hb blk hblk => ?_, fun b hb blk hblk => ?_, fun b c blk blk' g hne hb hc h1 h2 => ?_⟩
 ·rcases hb with hb | hb
  ·exact pre.holds b hb blk hblk
  ·rw [List.getElem?_eq_none hb] at hblk; cases hblk
 ·rcases hb with hb | hb
  ·rw [List.getElem?_eq_none hb] at hblk; cases hblk
  ·cases hb
 ·rcases hb with hb | hb
  ·rcases hc with hc | hc
   ·exact pre.inj b hb c hc blk blk' g hne h1 h2
   ·rw [List.getElem?_eq_none hc] at h2; cases h2
  ·rw [List.getElem?_eq_none hb] at h1; cases h1
def Mu.put (μ : Mu) (b g : Nat) (F : List Nat) : Mu := ⟨fun c => if c = b then some g else μ c, fun c => if c = b then F else μ.ft c⟩
def Mu.setFt (μ : Mu) (b : Nat) (F : List Nat) : Mu := ⟨μ.nm, fun c => if c = b then F else μ.ft c⟩
theorem Mu.put_at (μ : Mu) (b g : Nat) (F : List Nat) : μ.put b g F b = some g := by simp [Mu.put]
theorem Mu.put_ne (μ : Mu) {b c : Nat} (g : Nat) (F : List Nat) (h : c ≠ b) : μ.put b g F c = μ c := by simp [Mu.put, h]
theorem Mu.put_ft (μ : Mu) (b g : Nat) (F : List Nat) : (μ.put b g F).ft b = F := by simp [Mu.put]
theorem Mu.put_fne (μ : Mu) {b c : Nat} (g : Nat) (F : List Nat) (h : c ≠ b) : (μ.put b g F).ft c = μ.ft c := by simp [Mu.put, h]
theorem Mu.setFt_ft (μ : Mu) (b : Nat) (F : List Nat) : (μ.setFt b F).ft b = F := by simp [Mu.setFt]
theorem Mu.setFt_fne (μ : Mu) {b c : Nat} (F : List Nat) (h : c ≠ b) : (μ.setFt b F).ft c = μ.ft c := by simp [Mu.setFt, h]
theorem Mu.own_ne (μ : Mu) {b c g k : Nat} {F : List Nat} (h : c ≠ b) (hk : (μ.put b g F).own c k) : μ.own c k := by
 rcases hk with hk | hk
 ·rw [Mu.put_ne _ _ _ h] at hk; exact .inl hk
 ·rw [Mu.put_fne _ _ _ h] at hk; exact .inr hk
theorem Mu.own_at (μ : Mu) {b g k : Nat} {F : List Nat} (hk : (μ.put b g F).own b k) : k = g ∨ k ∈ F := by
 rcases hk with hk | hk
 ·rw [Mu.put_at] at hk; cases hk; exact .inl rfl
 ·rw [Mu.put_ft] at hk; exact .inr hk
theorem Mu.put_le {b g : Nat} {F : List Nat} (h : μ b = none) : MuLe μ (μ.put b g F) := fun c g' hc => by
 rw [Mu.put_ne]; exact hc
 rintro rfl; rw [h] at hc; cases hc
theorem Mu.setFt_le (b : Nat) (F : List Nat) : MuLe μ (μ.setFt b F) := fun c g' hc => hc
theorem Mu.own_set (μ : Mu) {b c k : Nat} {F : List Nat} (h : c ≠ b) (hk : (μ.setFt b F).own c k) : μ.own c k := by
 rcases hk with hk | hk
 ·exact .inl hk
 ·rw [Mu.setFt_fne _ _ h] at hk; exact .inr hk
theorem app_at {hp : Hp} {blk : Blk} {b : Nat} {blk' : Blk} (h : (hp ++ [some blk])[b]? = some (some blk')) : (b < hp.length ∧ hp[b]? = some (some blk')) ∨ (b = hp.length ∧ blk' = blk) := by
 rw [List.getElem?_append] at h
 split at h
 ·rename_i hb; exact .inl ⟨hb, h⟩
 ·rename_i hb
  right
  cases hk : b - hp.length with
  | zero => rw [hk] at h; simp at h; exact ⟨by omega, h.symm⟩
  | succ k => rw [hk] at h; simp at h
theorem setnone_at {hp : Hp} {b c : Nat} {blk : Blk} (h : (hp.set b none)[c]? = some (some blk)) : c ≠ b ∧ hp[c]? = some (some blk) := by
 rw [List.getElem?_set] at h
 split at h
 ·first | (cases h; done) | (split at h <;> cases h)
 ·rename_i hc; exact ⟨fun e => hc e.symm, h⟩
theorem set_at' {hp : Hp} {b c : Nat} {X blk : Blk} (h : (hp.set b (some X))[c]? = some (some blk)) : (c = b ∧ blk = X) ∨ (c ≠ b ∧ hp[c]? = some (some blk)) := by
 rw [List.getElem?_set] at h
 split at h
 ·rename_i e
  split at h
  ·cases h; exact .inl ⟨e.symm, rfl⟩
  ·cases h
 ·rename_i e; exact .inr ⟨fun x => e x.symm, h⟩
theorem Good.newC {acc : List Nat} {blk : Blk} {cs : Array Value} {fr : Nat × Nat} {wd : World} (hd : wd = w ∨ wd = w.drew) (pre : Pre P I μ w hp acc (hp.length + 1)) (hfr : fr.2 ≤ fr.1 ∨ cs.size ≤ fr.1)
  (hr : Cont P I μ w [] blk.1 cs) :
  Good P I I μ (μ.put hp.length w.heap.size []) w (wd.alloc (.cells cs blk.2 fr)) hp (hp ++ [some blk]) acc [] ∧
   (wd.alloc (.cells cs blk.2 fr)).shape? w.heap.size = some (blk.2, cs.size) := by
 have hsz : wd.heap.size = w.heap.size := by rcases hd with rfl | rfl <;> rfl
 have hE : Evo I w (wd.alloc (.cells cs blk.2 fr)) (fun k => ∃ b ∈ ([] : List Nat), μ.own b k) := by
  rcases hd with rfl | rfl
  ·exact .alloc _ _ _
  ·exact (Evo.drew w _).trans (.alloc _ _ _) (.refl _) (fun _ _ h => h)
 have hle : MuLe μ (μ.put hp.length w.heap.size []) := Mu.put_le (pre.fresh _ (Nat.le_refl _) (by omega))
 have hnew : (wd.alloc (.cells cs blk.2 fr)).heap[w.heap.size]? = some (.cells cs blk.2 fr) := by rw [← hsz]; exact heap_alloc_new wd _
 refine ⟨⟨.refl _, fun _ h => .inl h, hE, hle, fun b g h => ?_, fun b _ hb => ?_, fun b hb blk' hblk => ?_, fun b hb blk' hblk g hg => ?_, fun b c blk' blk'' g hne hb hc h1 h2 g1 g2 => ?_⟩, shape_of hnew⟩
 ·by_cases hbl : b = hp.length
  ·right; simp; omega
  ·left; rwa [Mu.put_ne _ _ _ hbl] at h
 ·exact Mu.put_fne _ _ _ (by rintro rfl; exact hb ⟨Nat.le_refl _, by simp⟩)
 ·rcases app_at hblk with ⟨hl, h⟩ | ⟨rfl, rfl⟩
  ·rcases hb with hb | hb
   ·have hne : b ≠ hp.length := by omega
    exact (pre.holds b hb blk' h).keep hE (.refl _) hle (fun h0 => by rw [Mu.put_ne _ _ _ hne]; exact h0) (Mu.put_fne _ _ _ hne) (fun g _ hx => by obtain ⟨c, hc, _⟩ := hx; cases hc) (fun g hg => (pre.holds b hb blk' h).nimm hg)
   ·omega
  ·refine .inl ⟨w.heap.size, cs, fr, Mu.put_at _ _ _ _, fun hi => Nat.lt_irrefl _ (pre.ilt _ hi), hnew, hfr, ?_, ?_, ?_⟩
   ·rw [Mu.put_ft]; exact hr.keep (by simp) hE (Sub.refl _) hle
   ·rw [Mu.put_ft]; simp
   ·rw [Mu.put_ft]; simp
 ·rcases app_at hblk with ⟨hl, h⟩ | ⟨rfl, rfl⟩
  ·rcases hb with hb | hb
   ·omega
   ·cases hb
  ·rcases Mu.own_at _ hg with rfl | hg
   ·exact .inl (Nat.le_refl _)
   ·cases hg
 ·have old : ∀ b blk', (b ∈ acc ∨ hp.length ≤ b) → b < hp.length → hp[b]? = some (some blk') → ∀ g, μ.own b g → g < w.heap.size := by
   intro b blk' hb hl h g hg
   rcases hb with hb | hb
   ·exact (pre.holds b hb blk' h).lt hg
   ·omega
  rcases app_at h1 with ⟨hl, h⟩ | ⟨rfl, rfl⟩
  ·have g1' := Mu.own_ne _ (by omega) g1
   rcases app_at h2 with ⟨hl', h'⟩ | ⟨rfl, rfl⟩
   ·have g2' := Mu.own_ne _ (by omega) g2
    rcases hb with hb | hb
    ·rcases hc with hc | hc
     ·exact pre.inj b hb c hc _ _ g hne h h' g1' g2'
     ·omega
    ·omega
   ·have := old b blk' hb hl h g g1'
    rcases Mu.own_at _ g2 with rfl | g2
    ·omega
    ·cases g2
  ·rcases app_at h2 with ⟨hl', h'⟩ | ⟨rfl, rfl⟩
   ·have := old c blk'' hc hl' h' g (Mu.own_ne _ (by omega) g2)
    rcases Mu.own_at _ g1 with rfl | g1
    ·omega
    ·cases g1
   ·exact hne rfl
theorem Good.new {acc : List Nat} {blk : Blk} {cs : Array Value} {fr : Nat × Nat} {wd : World} (hd : wd = w ∨ wd = w.drew) (pre : Pre P I μ w hp acc (hp.length + 1)) (hs : blk.1.length ≤ cs.size) (hfr : fr.2 ≤ fr.1 ∨ cs.size ≤ fr.1)
  (hr : V.RL P I μ w blk.1 (cs.toList.take blk.1.length)) :
  Good P I I μ (μ.put hp.length w.heap.size []) w (wd.alloc (.cells cs blk.2 fr)) hp (hp ++ [some blk]) acc [] ∧
   (wd.alloc (.cells cs blk.2 fr)).shape? w.heap.size = some (blk.2, cs.size) := Good.newC hd pre hfr (.of hs hr)
theorem Tidy.same (hp : Hp) {acc : List Nat} (h : ∀ b ∈ acc, b < hp.length) : Tidy hp hp acc [] := ⟨Nat.le_refl _, fun _ _ _ => rfl, by simp, h, by simp⟩
theorem Tidy.new (hp : Hp) (blk : Option Blk) {acc : List Nat} (h : ∀ b ∈ acc, b < hp.length) : Tidy hp (hp ++ [blk]) acc [] :=
 ⟨by simp, fun b hb _ => by rw [List.getElem?_append_left hb], by simp, h, by simp⟩
theorem Good.killC {acc : List Nat} {b g : Nat} {blk blk' : Blk} {cs : Array Value} {fr : Nat × Nat} {F : List Nat} {X : Nat → Prop} (pre : Pre P I μ w hp acc (hp.length + 1)) (hb : b ∈ acc) (hblk : hp[b]? = some (some blk))
  (hE : Evo I w w' X) (hX : ∀ k, X k → μ.own b k) (hXF : ∀ k ∈ F, ¬ X k) (hF : F.Sublist (μ.ft b)) (hg : w.heap.size ≤ g ∧ g < w'.heap.size ∨ μ b = some g) (hgi : ¬ I g)
  (hw : w'.heap[g]? = some (.cells cs blk'.2 fr)) (hfr : fr.2 ≤ fr.1 ∨ cs.size ≤ fr.1) (hr : Cont P I μ w F blk'.1 cs) :
  Good P I I μ (μ.put hp.length g F) w w' hp (hp.set b none ++ [some blk']) acc [b] := by
 have hE1 : Evo I w w' (fun k => ∃ c ∈ [b], μ.own c k) := hE.mono fun k hk => ⟨b, by simp, hX k hk⟩
 have hH := pre.holds b hb blk hblk
 have hbl : b < hp.length := (List.getElem?_eq_some_iff.1 hblk).1
 have hle : MuLe μ (μ.put hp.length g F) := Mu.put_le (pre.fresh _ (Nat.le_refl _) (by omega))
 have hat : ∀ c blk'', (hp.set b none ++ [some blk'])[c]? = some (some blk'') → (c < hp.length ∧ c ≠ b ∧ hp[c]? = some (some blk'')) ∨ (c = hp.length ∧ blk'' = blk') := by
  intro c blk'' h
  rcases app_at h with ⟨hc, h⟩ | ⟨hc, h⟩
  ·obtain ⟨h1, h2⟩ := setnone_at h
   exact .inl ⟨by simpa using hc, h1, h2⟩
  ·exact .inr ⟨by simpa using hc, h⟩
 have hFo : ∀ k ∈ F, μ.own b k := fun k hk => .inr (hF.subset hk)
 have hnd : (g :: F).Nodup := by
  rw [List.nodup_cons]
  rcases hH with ⟨g', cs', fr', h1, _, h2, _, _, h5, h6⟩ | ⟨h1, h3⟩ | ⟨_, _, _, _, _, _, _, _, _, h3⟩
  ·rw [List.nodup_cons] at h5
   refine ⟨fun hm => ?_, h5.2.sublist hF⟩
   rcases hg with hg | hg
   ·have := (h6 g (hF.subset hm)).2; omega
   ·rw [hg] at h1; cases h1
    exact h5.1 (hF.subset hm)
  ·rw [h3] at hF
   rw [List.sublist_nil.1 hF]; simp
  ·rw [h3] at hF
   rw [List.sublist_nil.1 hF]; simp
 refine ⟨.refl _, fun _ h => .inl h, hE1, hle, fun c k h => ?_, fun c hc hn => ?_, fun c hc blk'' h => ?_, fun c hc blk'' h k hk => ?_, fun c d b1 b2 k hne hc hd h1 h2 k1 k2 => ?_⟩
 ·by_cases hcl : c = hp.length
  ·right; simp; omega
  ·left; rwa [Mu.put_ne _ _ _ hcl] at h
 ·exact Mu.put_fne _ _ _ (by rintro rfl; exact hn ⟨Nat.le_refl _, by simp⟩)
 ·rcases hat c blk'' h with ⟨hl, hcb, h⟩ | ⟨rfl, rfl⟩
  ·rcases hc with hc | hc
   ·have hne : c ≠ hp.length := by omega
    exact (pre.holds c hc blk'' h).keep hE (.refl _) hle (fun h0 => by rw [Mu.put_ne _ _ _ hne]; exact h0) (Mu.put_fne _ _ _ hne) (fun k hk hx => pre.inj c hc b hb _ _ k hcb h hblk hk (hX k hx)) (fun k hk => (pre.holds c hc blk'' h).nimm hk)
   ·omega
  ·refine .inl ⟨g, cs, fr, Mu.put_at _ _ _ _, hgi, hw, hfr, ?_, ?_, fun k hk => ?_⟩
   ·rw [Mu.put_ft]; exact hr.keep hXF hE (Sub.refl _) hle
   ·rw [Mu.put_ft]; exact hnd
   ·rw [Mu.put_ft] at hk
    exact ⟨hH.nimm (hFo k hk), Nat.lt_of_lt_of_le (hH.lt (hFo k hk)) hE.size⟩
 ·rcases hat c blk'' h with ⟨hl, hcb, _⟩ | ⟨rfl, rfl⟩
  ·rcases hc with hc | hc
   ·omega
   ·exact absurd (by simpa using hc) hcb
  ·rcases Mu.own_at _ hk with rfl | hk
   ·rcases hg with hg | hg
    ·exact .inl hg.1
    ·exact .inr ⟨b, by simp, .inl hg, ⟨_, hblk⟩⟩
   ·exact .inr ⟨b, by simp, hFo k hk, ⟨_, hblk⟩⟩
 ·have key : ∀ c b1, c < hp.length → c ≠ b → (c ∈ acc ∨ hp.length ≤ c) → hp[c]? = some (some b1) → μ.own c k → (μ.put hp.length g F).own hp.length k → False := by
   intro c b1 hcl hcb hc h1 q1 q2
   have hc' : c ∈ acc := by rcases hc with hc | hc; exact hc; omega
   rcases Mu.own_at _ q2 with e | q2
   ·subst e
    rcases hg with hg | hg
    ·have := (pre.holds c hc' _ h1).lt q1; omega
    ·exact pre.inj c hc' b hb _ _ _ hcb h1 hblk q1 (.inl hg)
   ·exact pre.inj c hc' b hb _ _ _ hcb h1 hblk q1 (hFo k q2)
  rcases hat c b1 h1 with ⟨hl, hcb, h1'⟩ | ⟨ec, _⟩
  ·have k1' := Mu.own_ne _ (by omega) k1
   rcases hat d b2 h2 with ⟨hl', hdb, h2'⟩ | ⟨ed, _⟩
   ·have hc' : c ∈ acc := by rcases hc with hc | hc; exact hc; omega
    have hd' : d ∈ acc := by rcases hd with hd | hd; exact hd; omega
    exact pre.inj _ hc' _ hd' _ _ k hne h1' h2' k1' (Mu.own_ne _ (by omega) k2)
   ·subst ed; exact key c b1 hl hcb hc h1' k1' k2
  ·subst ec
   rcases hat d b2 h2 with ⟨hl', hdb, h2'⟩ | ⟨ed, _⟩
   ·exact key d b2 hl' hdb hd h2' (Mu.own_ne _ (by omega) k2) k1
   ·exact hne ed.symm
theorem Good.writeC {acc : List Nat} {b g : Nat} {blk blk' : Blk} {old cs : Array Value} {fr : Nat × Nat} {F : List Nat} (pre : Pre P I μ w hp acc hp.length) (hb : b ∈ acc) (hblk : hp[b]? = some (some blk)) (hg : μ b = some g)
  (hw : w.heap[g]? = some (.cells old blk.2 fr)) (he : blk'.2 = blk.2) (hsz : cs.size = old.size) (hfr : fr.2 ≤ fr.1 ∨ old.size ≤ fr.1) (hF : F.Sublist (μ.ft b)) (hr : Cont P I μ w F blk'.1 cs) :
  Good P I I μ (μ.setFt b F) w (w.setRow g cs) hp (hp.set b (some blk')) acc [b] := by
 have hH := pre.holds b hb blk hblk
 have hE0 : Evo I w (w.setRow g cs) (fun k => k = g) := .setRow w g old cs _ fr hw hsz (hH.nimm (.inl hg))
 have hE : Evo I w (w.setRow g cs) (fun k => ∃ c ∈ [b], μ.own c k) := hE0.mono fun k hk => ⟨b, by simp, by rw [hk]; exact .inl hg⟩
 have hbl : b < hp.length := (List.getElem?_eq_some_iff.1 hblk).1
 obtain ⟨_, _, hgi, _, _, _, hnd, hFs⟩ := hH.realC hg hw
 rw [List.nodup_cons] at hnd
 have hgF : g ∉ F := fun h => hnd.1 (hF.subset h)
 have hlt : ∀ c blk'', (hp.set b (some blk'))[c]? = some (some blk'') → c < hp.length := by
  intro c blk'' h; have := (List.getElem?_eq_some_iff.1 h).1; simpa using this
 have hown : ∀ c k, (μ.setFt b F).own c k → μ.own c k := by
  intro c k hk
  by_cases hcb : c = b
  ·subst hcb
   rcases hk with hk | hk
   ·exact .inl hk
   ·rw [Mu.setFt_ft] at hk; exact .inr (hF.subset hk)
  ·exact Mu.own_set _ hcb hk
 refine ⟨.refl _, fun _ h => .inl h, hE, Mu.setFt_le _ _, fun b g h => .inl h, fun c hc _ => Mu.setFt_fne _ _ (by rintro rfl; simp at hc), fun c hc blk'' h => ?_, fun c hc blk'' h k hk => ?_, fun c d b1 b2 k hne hc hd h1 h2 k1 k2 => ?_⟩
 ·have hcl := hlt c blk'' h
  rcases set_at' h with ⟨rfl, rfl⟩ | ⟨hcb, h⟩
  ·refine .inl ⟨g, cs, fr, hg, hgi, ?_, by rw [hsz]; exact hfr, ?_, ?_, fun k hk => ?_⟩
   ·rw [setRow_heap w g old cs _ fr hw, he]
   ·rw [Mu.setFt_ft]; exact hr.keep (fun k hk e => hgF (by have e' : k = g := e; rw [← e']; exact hk)) hE0 (Sub.refl _) (Mu.setFt_le _ _)
   ·rw [Mu.setFt_ft, List.nodup_cons]; exact ⟨hgF, hnd.2.sublist hF⟩
   ·rw [Mu.setFt_ft] at hk
    exact ⟨(hFs k (hF.subset hk)).1, Nat.lt_of_lt_of_le (hFs k (hF.subset hk)).2 hE0.size⟩
  ·rcases hc with hc | hc
   ·refine (pre.holds c hc blk'' h).keep hE0 (.refl _) (Mu.setFt_le _ _) (fun h => h) (Mu.setFt_fne _ _ hcb) (fun k hk hx => ?_) (fun k hk => (pre.holds c hc blk'' h).nimm hk)
    subst hx
    exact pre.inj c hc b hb _ _ k hcb h hblk hk (.inl hg)
   ·omega
 ·rcases hc with hc | hc
  ·have := hlt c blk'' h; omega
  ·obtain rfl : c = b := by simpa using hc
   exact .inr ⟨c, by simp, hown c k hk, ⟨_, hblk⟩⟩
 ·have hcl := hlt c b1 h1
  have hdl := hlt d b2 h2
  have hc' : c ∈ acc := by rcases hc with hc | hc; exact hc; omega
  have hd' : d ∈ acc := by rcases hd with hd | hd; exact hd; omega
  have al : ∀ (c : Nat) (b1 : Blk), (hp.set b (some blk'))[c]? = some (some b1) → ∃ x : Blk, hp[c]? = some (some x) := by
   intro c b1 h
   rcases set_at' h with ⟨rfl, _⟩ | ⟨_, h⟩
   ·exact ⟨_, hblk⟩
   ·exact ⟨_, h⟩
  obtain ⟨_, h1'⟩ := al c b1 h1
  obtain ⟨_, h2'⟩ := al d b2 h2
  exact pre.inj _ hc' _ hd' _ _ k hne h1' h2' (hown c k k1) (hown d k k2)
end
end Go.Proofs.YtfncaghjfgnnhaaGreatDoor

namespace Go.Proofs.YtfncaghjfgnnhaaGreatDoor
open Go.RowKit
set_option maxRecDepth 100000
section
variable {P : Program} {I : Nat → Prop} {μ μ' : Mu} {w w' : World} {hp : Hp} {out : Out}
theorem run_isAgg {t : TypeId} {d : TypeDesc} (h : P.underlying t = some d) (w : World) : (isAgg t).run P w = .ok (rowD d) w := by
 unfold isAgg
 rw [Sem.run_bind, run_underlying h w]
 cases d <;> rfl
theorem run_sizeOf {t : TypeId} {s : Nat} (h : szOf P t = some s) (w : World) : (sizeOf t).run P w = .ok s w := by
 unfold szOf at h
 cases hi : P.info? t with
 | none => rw [hi] at h; cases h
 | some i => rw [hi] at h; simp at h; simp [sizeOf, typeInfo, hi, h]
theorem flat_cells {c : V} {v : Value} (h : V.R P I μ w c v) (hf : c.flat = true) : V.RL P I μ w (cellsV c) v.cells.toList := by
 cases c
 case agg cs =>
  simp only [V.R] at h
  obtain ⟨vs, rfl, h⟩ := h
  exact h
 all_goals
  rw [(V.one_cell h hf).2]
  simp only [cellsV, V.RL]
  exact ⟨_, _, rfl, h, rfl⟩
theorem ones {cs : List V} {vs : List Value} (h : V.RL P I μ w cs vs) (h1 : cs.all V.one = true) : ∀ u ∈ vs, u.oneCell' = true := by
 intro u hu
 obtain ⟨j, hj, rfl⟩ := List.getElem_of_mem hu
 have hl := h.length
 have hc : cs[j]? = some (cs[j]'(by omega)) := List.getElem?_eq_getElem (by omega)
 obtain ⟨u', hu', hr⟩ := h.get hc
 rw [List.getElem?_eq_getElem hj] at hu'
 cases hu'
 exact (V.one_cell hr (List.all_eq_true.1 h1 _ (List.getElem_mem (by omega)))).1
theorem Holds.rowC {b : Nat} {blk : Blk} (h : Holds P I μ w b blk) (hT : rowT blk.2 = true) {g : Nat} (hg : μ b = some g) : ∃ cs, Row w g blk.2 cs ∧ (flat blk.1).length ≤ cs.size ∧ CR P I μ w (μ.ft b) blk.1 (cs.toList.take (flat blk.1).length) := by
 obtain ⟨cs, fr, _, h2, h3, ⟨h4, h5⟩, _⟩ := h.real hT hg
 exact ⟨cs, ⟨fr, h2, h3⟩, h4, h5⟩
theorem Holds.rowS {b : Nat} {blk : Blk} {s : TypeId × Nat} (h : Holds P I μ w b blk) {g : Nat} (hg : μ b = some g) (hs : w.shape? g = some s) : ∃ cs, Row w g blk.2 cs ∧ (flat blk.1).length ≤ cs.size ∧ CR P I μ w (μ.ft b) blk.1 (cs.toList.take (flat blk.1).length) := by
 obtain ⟨cs, fr, _, h2, h3, ⟨h4, h5⟩, _⟩ := h.realS hg hs
 exact ⟨cs, ⟨fr, h2, h3⟩, h4, h5⟩
theorem CR.part {F : List Nat} {l : List V} {vs : List Value} (h : CR P I μ w F l vs) (off n : Nat) (ho : noOs (((flat l).drop off).take n) = true) : V.RL P I μ w (((flat l).drop off).take n) ((vs.drop off).take n) := by
 obtain ⟨_, F2, _, _, h2⟩ := h.toXL.split off
 obtain ⟨F3, _, _, h3, _⟩ := h2.split n
 exact (h3.toRL ho).2
theorem CR.part' {F : List Nat} {l : List V} {vs : List Value} (h : CR P I μ w F l vs) (off n : Nat) (ho : (!hasO l || noOs (((flat l).drop off).take n)) = true) : V.RL P I μ w (((flat l).drop off).take n) ((vs.drop off).take n) := by
 rw [Bool.or_eq_true] at ho
 rcases ho with ho | ho
 ·exact ((h.plainL (by simpa using ho)).2.drop off).take n
 ·exact h.part off n ho
theorem Row.range {g : Nat} {e : TypeId} {cs : Array Value} (h : Row w g e cs) (off n len : Nat) : w.rangeAt g off (((cs.toList.take len).drop off).take n) := by
 intro j v hj
 rw [h.cell]
 rw [List.getElem?_take] at hj
 split at hj
 ·rw [List.getElem?_drop, List.getElem?_take] at hj
  split at hj
  ·simpa using hj
  ·cases hj
 ·cases hj
theorem asPtr_R {x : V} {vx : Value} (h : V.R P I μ w x vx) : V.R P I μ w x.asPtr vx := by
 cases x <;> first | exact h | (simp only [V.asPtr, V.R, offs_eq] at h ⊢; exact h)
theorem load_sound {t : TypeId} {x : V} {vx : Value} (h : evLoad P hp t x = some out) (hx0 : V.R P I μ w x vx) (pre : Pre P I μ w hp out.acc out.hp.length) :
  out.hp = hp ∧ out.wr = [] ∧ (∀ b ∈ out.acc, b < hp.length) ∧ ∃ val, (Instr.loadAt t vx).run P w = .ok val w ∧ V.R P I μ w out.v val := by
 have hx := asPtr_R hx0
 unfold evLoad at h
 split at h
 case h_3 => cases h
 case h_2 cs0 hxe =>
  rw [hxe] at hx
  split at h
  case h_2 => cases h
  case h_1 d s hu hs =>
  simp only [V.R] at hx
  obtain ⟨g, off, rfl, hmem⟩ := hx
  split at h
  ·rename_i hd
   split at h
   case isFalse => cases h
   case isTrue hl =>
   cases h
   have key : ∃ vals : List Value, w.rangeAt g off vals ∧ V.RL P I μ w (cs0.take s) vals := by
    rcases hmem with rfl | ⟨_, cells, e, fr, hg, hrl⟩
    ·exact ⟨[], fun j v hv => by simp at hv, by simp [V.RL]⟩
    ·refine ⟨((cells.toList.drop off).take cs0.length).take s, fun j v hv => ?_, RL_up (hrl.take s)⟩
     rw [List.getElem?_take] at hv
     split at hv
     ·rw [List.getElem?_take] at hv
      split at hv
      ·rw [List.getElem?_drop] at hv
       simpa [World.cell?, hg] using hv
      ·cases hv
     ·cases hv
   obtain ⟨vals, hr1, hr2⟩ := key
   refine ⟨rfl, rfl, by simp, .agg vals.toArray, ?_, by simp only [V.R]; exact ⟨_, rfl, by simpa using hr2⟩⟩
   simp only [Instr.loadAt, Instr.sureAddr, Sem.run_bind, Sem.run_pure, Result.andThen_ok]
   refine run_loadVar_mid w g off t vals d hr1 hu ?_ ?_
   ·cases d <;> first | rfl | exact hd
   ·unfold szOf at hs; rw [hs, hr2.length, hl]
  ·rename_i hd
   split at h
   case h_2 => cases h
   case h_1 c rest =>
   cases h
   rcases hmem with h0 | ⟨_, cells, e, fr, hg, hrl⟩
   ·cases h0
   ·obtain ⟨u, hu2, hr⟩ := hrl.get (j := 0) (c := c) rfl
    rw [List.getElem?_take, if_pos (by simp), List.getElem?_drop] at hu2
    have hcell : w.cell? ⟨g, off, none⟩ = some u := by simpa [World.cell?, hg] using hu2
    refine ⟨rfl, rfl, by simp, u, ?_, R_up hr⟩
    simp only [Instr.loadAt, Instr.sureAddr, Sem.run_bind, Sem.run_pure, Result.andThen_ok, loadVar, run_isAgg hu, hd, Bool.false_eq_true, if_false, run_load, hcell]
 case h_1 b off hxe =>
 rw [hxe] at hx
 split at h
 case h_2 => cases h
 case h_1 blk d s hb hu hs =>
 simp only [V.R] at hx
 obtain ⟨g, hg, rfl⟩ := hx
 have hbl : b < hp.length := (List.getElem?_eq_some_iff.1 hb).1
 split at h
 ·rename_i hd
  split at h
  ·rename_i hl
   cases h
   have hl2 := hl.2
   rw [Bool.and_eq_true] at hl2
   obtain ⟨cs, hrow, hsz, hrl⟩ := (pre.holds b (by simp) blk hb).rowC hl2.2 hg
   have hr2 := hrl.part' off s hl2.1
   refine ⟨rfl, rfl, by simpa using hbl, .agg (((cs.toList.take (flat blk.1).length).drop off).take s).toArray, ?_, ?_⟩
   ·simp only [Instr.loadAt, Instr.sureAddr, Sem.run_bind, Sem.run_pure, Result.andThen_ok]
    refine run_loadVar_mid w g off t (((cs.toList.take (flat blk.1).length).drop off).take s) d (hrow.range off s _) hu ?_ ?_
    ·cases d <;> first | rfl | exact hd
    ·unfold szOf at hs; rw [hs, hr2.length, hl.1]
   ·simp only [V.R]; exact ⟨_, rfl, by simpa using hr2⟩
  ·cases h
 ·rename_i hd
  split at h
  ·rename_i c hc
   split at h
   case h_2 => cases h
   case h_1 hco =>
   cases h
   rw [Bool.or_eq_false_iff] at hco
   obtain ⟨u, hu2, hr⟩ := (pre.holds b (by simp) blk hb).cell (by unfold rowT; rw [hco.2]; rfl) hg hc hco.1
   refine ⟨rfl, rfl, by simpa using hbl, u, ?_, hr⟩
   simp only [Instr.loadAt, Instr.sureAddr, Sem.run_bind, Sem.run_pure, Result.andThen_ok, loadVar, run_isAgg hu, hd, Bool.false_eq_true, if_false, run_load, hu2]
  ·cases h
theorem take_splice {α : Type} (l vs : List α) (off len : Nat) (h : off + vs.length ≤ len) (hl : len ≤ l.length) :
  (l.take off ++ vs ++ l.drop (off + vs.length)).take len = (l.take len).take off ++ vs ++ (l.take len).drop (off + vs.length) := by
 apply List.ext_getElem?
 intro j
 have h1 : (List.take off l).length = off := by simp; omega
 have h2 : (List.take off (List.take len l)).length = off := by simp; omega
 simp only [List.getElem?_take, List.getElem?_append, List.length_append, h1, h2, List.getElem?_drop]
 by_cases hj : j < len
 ·simp only [hj, if_true]
  by_cases ha : j < off + vs.length
  ·simp only [ha, if_true]
  ·simp only [ha, if_false]
   rw [if_pos (by omega)]
 ·rw [if_neg hj, if_neg (by omega), if_neg (by omega)]
theorem splice_sound {F : List Nat} {l new l' : List V} {off s : Nat} {vs nv : List Value} (h : spliceV l off s new = some l') (hl : CR P I μ w F l vs) (hn : V.RL P I μ w new nv) (hs : new.length = s) (hle : off + s ≤ (flat l).length) :
  (flat l').length = (flat l).length ∧ ∃ F', F'.Sublist F ∧ CR P I μ w F' l' (vs.take off ++ nv ++ vs.drop (off + s)) := by
 have hfn := flat_of_RL hn
 have hnn := noSeal_of_RL hn
 unfold spliceV at h
 split at h
 ·rename_i hseal
  cases h
  have hf := flat_noSeal hseal
  have hx := hl.toXL
  rw [hf] at hx hle ⊢
  obtain ⟨F1, F2, rfl, h1, h2⟩ := hx.split off
  obtain ⟨F3, F4, rfl, _, h4⟩ := h2.split s
  rw [List.drop_drop, List.drop_drop] at h4
  have hr := (h1.append (OXL_ofRL hn)).append h4
  have hs0 : ∀ a b : List V, hasSeal (a ++ b) = (hasSeal a || hasSeal b) := by
   intro a b
   induction a with
   | nil => rfl
   | cons x t ih =>
    rw [List.cons_append]
    rcases seal_or x with ⟨o, c, rfl⟩ | hx
    ·rw [hasSeal_mkS, hasSeal_mkS]; rfl
    ·rw [hasSeal_cons hx, hasSeal_cons hx]; exact ih
  have ht : ∀ n, hasSeal (l.take n) = false ∧ hasSeal (l.drop n) = false := by
   intro n
   have := hs0 (l.take n) (l.drop n)
   rw [List.take_append_drop, hseal] at this
   simpa using this.symm
  have hsl : hasSeal (l.take off ++ new ++ l.drop (off + s)) = false := by rw [hs0, hs0, (ht off).1, (ht (off + s)).2, hnn]; rfl
  refine ⟨?_, F1 ++ [] ++ F4, ?_, .ofXL hsl hr⟩
  ·rw [flat_noSeal hsl]
   simp only [List.length_append, List.length_take, List.length_drop, hs]; omega
  ·rw [List.append_nil]
   exact (List.Sublist.refl F1).append (List.sublist_append_right F3 F4)
 ·split at h
  case h_2 => cases h
  case h_1 hrefs =>
  cases h
  have hnm := hl.nomuS hrefs
  obtain ⟨F1, F2, rfl, h1, h2⟩ := hnm.split off
  obtain ⟨F3, F4, rfl, _, h4⟩ := h2.split s
  rw [List.drop_drop, List.drop_drop] at h4
  refine ⟨?_, F1 ++ F4, (List.Sublist.refl F1).append (List.sublist_append_right F3 F4), ?_⟩
  ·rw [flat_sealO, flat_append, hfn, flat_sealO]
   simp only [flat, List.length_append, List.length_take, List.length_drop, hs, List.append_nil]; omega
  ·refine CR.sealO_iff.2 ⟨vs.take off, nv ++ vs.drop (off + s), F1, F4, by simp, rfl, h1, ?_⟩
   have := (CR.of hn).append (.sealedO h4)
   simpa using this
theorem store_sound {t : TypeId} {x y : V} {vx vy : Value} (h : evStore P hp t x y = some out) (hx0 : V.R P I μ w x vx) (hy : V.R P I μ w y vy) (pre : Pre P I μ w hp out.acc out.hp.length) :
  ∃ w' μ', (Instr.storeAt t vx vy).run P w = .ok () w' ∧ out.v = .junk ∧ Good P I I μ μ' w w' hp out.hp out.acc out.wr := by
 have hx := asPtr_R hx0
 unfold evStore at h
 split at h
 case h_2 => cases h
 case h_1 b off hxe =>
 rw [hxe] at hx
 split at h
 case h_2 => cases h
 case h_1 blk s hb hs =>
 simp only [V.R] at hx
 obtain ⟨g, hg, rfl⟩ := hx
 split at h
 case isFalse => cases h
 case isTrue hc =>
 obtain ⟨hf, hl, h1, hle, hT⟩ := hc
 split at h
 case h_2 => cases h
 case h_1 l' hsp =>
 cases h
 obtain ⟨cs, fr, _, hw, hfr, ⟨hsz, hcr⟩, _⟩ := (pre.holds b (by simp) blk hb).real hT hg
 have hrow : Row w g blk.2 cs := ⟨fr, hw, hfr⟩
 have hfl := flat_cells hy hf
 have hvl : vy.cells.toList.length = s := by rw [hfl.length, hl]
 have hst := storeCells_row P g off blk.2 vy.cells.toList 0 cs w hrow (by omega) (ones hfl h1)
 simp only [Nat.add_zero] at hst
 obtain ⟨hl2, F', hF', hcr2⟩ := splice_sound hsp hcr hfl hl hle
 refine ⟨w.setRow g (cs.toList.take off ++ vy.cells.toList ++ cs.toList.drop (off + vy.cells.toList.length)).toArray, μ.setFt b F', ?_, rfl, ?_⟩
 ·simp only [Instr.storeAt, Instr.sureAddr, Sem.run_bind, Sem.run_pure, Result.andThen_ok, storeVar, run_sizeOf hs]
  rw [if_neg (by simpa using hvl)]
  exact hst
 ·have e := take_splice cs.toList vy.cells.toList off (flat blk.1).length (by omega) (by simpa using hsz)
  have hvs : vy.cells.size = s := by simpa using hvl
  refine Good.writeC (blk' := (l', blk.2)) (by simpa using pre) (by simp) hb hg hw rfl ?_ hfr hF' ?_
  ·simp only [List.size_toArray, List.length_append, List.length_take, List.length_drop, Array.length_toList]; omega
  ·refine ⟨?_, ?_⟩
   ·show (flat l').length ≤ _
    rw [hl2]; simp only [List.size_toArray, List.length_append, List.length_take, List.length_drop, Array.length_toList]; omega
   ·show CR P I μ w F' l' (List.take (flat l').length _)
    rw [hl2, e, hvl]
    exact hcr2
theorem newVar_sound {t : TypeId} {x : V} {vx : Value} (hx : V.RL P I μ w (cellsV x) vx.cells.toList) {hp : Hp} {acc : List Nat} (pre : Pre P I μ w hp acc (hp ++ [some (cellsV x, t)]).length) :
  (newVar t vx).run P w = .ok ⟨w.heap.size, 0, none⟩ (w.alloc (.cells vx.cells t)) ∧
  Good P I I μ (μ.put hp.length w.heap.size []) w (w.alloc (.cells vx.cells t)) hp (hp ++ [some (cellsV x, t)]) acc [] := by
 refine ⟨by simp [newVar, newRow], ?_⟩
 have hl := hx.length
 simp at hl
 refine (Good.new (blk := (cellsV x, t)) (.inl rfl) (by simpa using pre) (by simp; omega) (.inl (Nat.le_refl _)) ?_).1
 rw [List.take_of_length_le (by simp; omega)]
 exact hx
theorem R_ofScalarN (v : Value) : V.R P I μ w (ofScalarN v) v := by
 unfold ofScalarN
 split
 ·simp [V.R]
 ·exact R_ofScalar v
theorem RL_ofScalarN : ∀ l : List Value, V.RL P I μ w (l.map ofScalarN) l
 | [] => by simp [V.RL]
 | v :: l => by simp only [List.map_cons, V.RL]; exact ⟨_, _, rfl, R_ofScalarN v, RL_ofScalarN l⟩
theorem RL_zcells (t : TypeId) (z : Array Value) : V.RL P I μ w (zcells P t z) z.toList := by
 unfold zcells
 split
 ·split
  ·exact RL_ofScalarN _
  ·exact RL_ofScalar _
 ·exact RL_ofScalar _
theorem zcells_len (t : TypeId) (z : Array Value) : (zcells P t z).length = z.size := by
 unfold zcells
 split
 ·split <;> simp
 ·simp
theorem alloc_sound {t : TypeId} (h : evAlloc P hp t = some out) (pre : Pre P I μ w hp out.acc out.hp.length) :
  ∃ val w' μ', (Instr.alloc t true (.tuple #[])).run P w = .ok val w' ∧ V.R P I μ' w' out.v val ∧ Good P I I μ μ' w w' hp out.hp out.acc out.wr := by
 unfold evAlloc at h
 split at h
 case h_2 => cases h
 case h_1 z hz =>
 cases h
 obtain ⟨i, hi, hz⟩ := Option.bind_eq_some_iff.1 hz
 have hl : (zcells P t z.cells).length = z.cells.size := zcells_len _ _
 refine ⟨.pointer (some ⟨w.heap.size, 0, none⟩), w.alloc (.cells z.cells t), μ.put hp.length w.heap.size [], ?_, ?_, ?_⟩
 ·simp [Instr.alloc, zeroValue, typeInfo, hi, hz, newVar, newRow]
 ·simp only [V.R]; exact ⟨_, Mu.put_at _ _ _ _, rfl⟩
 ·refine (Good.new (blk := (zcells P t z.cells, t)) (.inl rfl) (by simpa using pre) (by simp only; omega) (.inl (Nat.le_refl _)) ?_).1
  rw [List.take_of_length_le (by simp only [Array.length_toList]; omega)]
  exact RL_zcells _ _
theorem box_sound {t : TypeId} {x : V} {vx : Value} (h : evBox hp t x = some out) (hx : V.R P I μ w x vx) (pre : Pre P I μ w hp out.acc out.hp.length) :
  ∃ val w' μ', (Instr.box t vx).run P w = .ok val w' ∧ V.R P I μ' w' out.v val ∧ Good P I I μ μ' w w' hp out.hp out.acc out.wr := by
 unfold evBox at h
 split at h
 case isFalse => cases h
 case isTrue hf =>
 cases h
 obtain ⟨h1, h2⟩ := newVar_sound (t := t) (flat_cells hx hf) pre
 exact ⟨_, _, _, by simp [Instr.box, h1]; rfl, by simp only [V.R]; exact ⟨_, Mu.put_at _ _ _ _, rfl⟩, h2⟩
theorem foldl_cells (v : Value) (off : Nat) (cells : Array Value) (h : off + v.cells.size ≤ cells.size) :
  (v.cells.zipIdx.foldl (fun cs (x : Value × Nat) => cs.setIfInBounds (off + x.2) x.1) cells).toList = cells.toList.take off ++ v.cells.toList ++ cells.toList.drop (off + v.cells.size) := by
 rw [← Array.foldl_toList, Array.toList_zipIdx]
 obtain ⟨h1, h2⟩ := Great.foldl_set off v.cells.toList 0 cells
 apply List.ext_getElem?
 intro k
 have h2k := h2 k
 simp only [Array.length_toList, Nat.add_zero] at h2k
 rw [Array.getElem?_toList, h2k]
 have hl : (List.take off cells.toList).length = off := by simp; omega
 simp only [List.getElem?_append, List.length_append, hl, List.getElem?_take, List.getElem?_drop, Array.length_toList]
 by_cases ha : k < off
 ·rw [if_neg (by omega), if_pos (by omega), if_pos ha]
  simp [ha]
 ·by_cases hb : k < off + v.cells.size
  ·rw [if_pos (by omega), if_pos hb, if_neg ha]
  ·rw [if_neg (by omega), if_neg hb]
   rw [show off + v.cells.size + (k - (off + v.cells.size)) = k by omega]
   simp
inductive Parts (P : Program) (I : Nat → Prop) (μ : Mu) (w : World) : List (Nat × V) → List (Nat × Value) → Prop where
 | nil : Parts P I μ w [] []
 | cons {i : Nat} {x : V} {v : Value} {xs : List (Nat × V)} {vs : List (Nat × Value)} (h : V.R P I μ w x v) (t : Parts P I μ w xs vs) : Parts P I μ w ((i, x) :: xs) ((i, v) :: vs)
theorem fill_sound (place : Nat → Option (Nat × Nat)) {xs : List (Nat × V)} {vs : List (Nat × Value)} (hp : Parts P I μ w xs vs) : ∀ {cells : List V} {cv : Array Value} {r : List V}, V.RL P I μ w cells cv.toList → fillV place cells xs = some r →
  ∃ rv, Instr.fill place cv vs = some rv ∧ V.RL P I μ w r rv.toList ∧ r.length = cells.length := by
 induction hp with
 | nil => intro cells cv r hc h; cases h; exact ⟨cv, rfl, hc, rfl⟩
 | @cons i x v xs vs hx _ ih =>
  intro cells cv r hc h
  unfold fillV at h
  split at h
  case h_1 => cases h
  case h_2 off size hpl =>
  split at h
  case isFalse => cases h
  case isTrue hcond =>
  obtain ⟨hf, hl, hle⟩ := hcond
  have hfc := flat_cells hx hf
  have hvs : v.cells.size = size := by have := hfc.length; simp at this; omega
  have hcl := hc.length
  simp at hcl
  have hfold := foldl_cells v off cv (by omega)
  have hrl : V.RL P I μ w (cells.take off ++ cellsV x ++ cells.drop (off + size)) (v.cells.zipIdx.foldl (fun cs (x : Value × Nat) => cs.setIfInBounds (off + x.2) x.1) cv).toList := by
   rw [hfold, hvs]
   exact ((hc.take off).append hfc).append (hc.drop (off + size))
  obtain ⟨rv, h1, h2, h3⟩ := ih hrl h
  refine ⟨rv, ?_, h2, ?_⟩
  ·unfold Instr.fill
   rw [hpl]
   simp only
   rw [if_neg (by simp; omega)]
   exact h1
  ·rw [h3]; simp only [List.length_append, List.length_take, List.length_drop, hl]; omega
theorem build_sound {t : TypeId} {ps : List (Nat × V)} {vs : Array (Nat × Value)} (h : evBuild P hp t ps = some out) (hps : Parts P I μ w ps vs.toList) :
  out.hp = hp ∧ out.wr = [] ∧ out.acc = [] ∧ ∃ val, (Instr.build t vs).run P w = .ok val w ∧ V.R P I μ w out.v val := by
 unfold evBuild at h
 split at h
 case h_2 => cases h
 case h_1 it fields hi hu =>
 split at h
 case h_2 => cases h
 case h_1 z places hz hpl =>
 split at h
 case h_2 => cases h
 case h_1 cells hc =>
 cases h
 obtain ⟨rv, h1, h2, _⟩ := fill_sound _ hps (cv := z.cells) (RL_zcells _ _) hc
 refine ⟨rfl, rfl, rfl, .agg rv, run_build w t vs rv ?_, by simp only [V.R]; exact ⟨_, rfl, h2⟩⟩
 simp only [Program.built, hi, hu, hz, hpl]
 rw [← h1]
 congr 1
 funext i
 simp
theorem RL_zeros (z : Array Value) (n : Nat) : V.RL P I μ w (zeros (z.toList.map ofScalar) n) ((Array.range n).map (z[· % z.size]!)).toList := by
 refine .of (by simp [zeros]) fun j c u hc hu => ?_
 simp only [zeros, List.length_map, Array.length_toList] at hc
 rw [List.getElem?_map] at hc
 simp only [Array.toList_map, List.getElem?_map, Array.toList_range] at hu
 cases hj : (List.range n)[j]? with
 | none => rw [hj] at hc; cases hc
 | some k =>
  rw [hj] at hc hu
  simp at hc hu
  subst hc hu
  by_cases hk : k % z.size < z.size
  ·simp [hk, R_ofScalar]
  ·simp [hk, V.R]
theorem buildSlice_sound {t : TypeId} {n : Nat} {ps : List (Nat × V)} {vs : Array (Nat × Value)} (h : evBuildSlice P hp t n ps = some out) (hps : Parts P I μ w ps vs.toList) (pre : Pre P I μ w hp out.acc out.hp.length) :
  ∃ val w' μ', (Instr.buildSlice t n vs).run P w = .ok val w' ∧ V.R P I μ' w' out.v val ∧ Good P I I μ μ' w w' hp out.hp out.acc out.wr := by
 unfold evBuildSlice at h
 split at h
 case h_2 => cases h
 case h_1 elem hu =>
 split at h
 case h_2 => cases h
 case h_1 i hi =>
 split at h
 case h_2 => cases h
 case h_1 z hz =>
 split at h
 case isFalse => cases h
 case isTrue hcond =>
 obtain ⟨hle, hpos, hzs⟩ := hcond
 split at h
 case h_2 => cases h
 case h_1 cells hc =>
 cases h
 have hrl : ∃ zz : Array Value, (if n * i.size = 0 then (#[] : Array Value) else z.cells) = zz ∧ V.RL P I μ w (zeros (z.cells.toList.map ofScalar) (n * i.size)) ((Array.range (n * i.size)).map (zz[· % zz.size]!)).toList := by
  refine ⟨_, rfl, ?_⟩
  split
  ·rename_i h0; rw [h0]; simp [zeros, V.RL]
  ·exact RL_zeros _ _
 obtain ⟨zz, hzz, hrl⟩ := hrl
 obtain ⟨rv, h1, h2, h3⟩ := fill_sound _ hps hrl hc
 have hsz : rv.size = n * i.size := by
  have := h2.length
  simp at this
  rw [this, h3]; simp [zeros]
 have hcl : cells.length = n * i.size := by rw [h3]; simp [zeros]
 obtain ⟨hg, hsh⟩ := Good.new (P := P) (I := I) (μ := μ) (w := w) (hp := hp) (acc := []) (blk := (cells, elem)) (cs := rv) (fr := (0, 0)) (wd := w) (.inl rfl) (by simpa using pre) (by simp; omega) (.inl (Nat.le_refl _)) (by rw [List.take_of_length_le (by simp; omega)]; exact h2)
 refine ⟨.slice (some ⟨w.heap.size, 0, none⟩) n n, _, _, ?_, ?_, hg⟩
 ·by_cases h0 : n * i.size = 0
  ·rw [if_pos h0] at hzz
   subst hzz
   simp [Instr.buildSlice, run_underlying hu, sizeOf, typeInfo, hi, h0] at h1 ⊢
   simp [h1, newRow]
  ·rw [if_neg h0] at hzz
   subst hzz
   have hle' : ¬ 16777216 < n * i.size := by omega
   simp [Instr.buildSlice, run_underlying hu, sizeOf, typeInfo, zeroValue, hi, hz, h0, hle', h1, newRow]
 ·simp only [V.R]
  have hn : n ≤ n * i.size := Nat.le_mul_of_pos_right _ hpos
  exact .inl ⟨_, n, elem, _, i, Mu.put_at _ _ _ _, rfl, Nat.le_refl _, by simp only [maxLen]; omega, fun _ => rfl, hsh, hi, by simp; omega⟩
end
end Go.Proofs.YtfncaghjfgnnhaaGreatDoor

namespace Go.Proofs.YtfncaghjfgnnhaaGreatDoor
open Go.RowKit
set_option maxRecDepth 100000
section
variable {P : Program} {I : Nat → Prop} {μ μ' : Mu} {w w' : World} {hp : Hp} {out : Out}
theorem makeSlice_sound {t : TypeId} {x y : V} {vx vy : Value} (h : evMakeSlice P hp t x y = some out) (hx : V.R P I μ w x vx) (hy : V.R P I μ w y vy) (pre : Pre P I μ w hp out.acc out.hp.length) :
  ∃ val w' μ', (Instr.makeSlice t vx vy).run P w = .ok val w' ∧ V.R P I μ' w' out.v val ∧ Good P I I μ μ' w w' hp out.hp out.acc out.wr := by
 unfold evMakeSlice at h
 split at h
 case h_2 => cases h
 case h_1 kl l kc c =>
 split at h
 case h_2 => cases h
 case h_1 elem hu =>
 split at h
 case h_2 => cases h
 case h_1 i hi =>
 split at h
 case h_2 => cases h
 case h_1 z hz =>
 split at h
 case isFalse => cases h
 case isTrue hcond =>
 obtain ⟨h0, hlc, hc, hb, hpos, hzs⟩ := hcond
 cases h
 simp only [V.R] at hx hy
 subst hx hy
 have hbytes : (i.bytes : Int) * c ≤ 281474976710656 := by
  have h1 : (i.bytes : Int) * c ≤ (1048576 : Int) * c := Int.mul_le_mul_of_nonneg_right (by omega) (by omega)
  omega
 have hr := run_make (P := P) w t elem i z hu hi hz kl kc l c h0 hlc hbytes (by omega)
 obtain ⟨hg, hsh⟩ := Good.newC (P := P) (I := I) (μ := μ) (w := w) (hp := hp) (acc := []) (blk := ([.sld (zeros (z.cells.toList.map ofScalar) (c.toNat * i.size))], elem)) (cs := madeCells z.cells (c.toNat * i.size)) (fr := (0, 0)) (wd := w) (.inl rfl)
  (by simpa using pre) (.inl (Nat.le_refl _)) (.sld (by simp [zeros, madeCells]) (by
   rw [List.take_of_length_le (by simp [zeros, madeCells])]
   exact RL_zeros _ _))
 refine ⟨_, _, _, hr, ?_, hg⟩
 simp only [V.R]
 refine .inl ⟨_, c.toNat, elem, _, i, Mu.put_at _ _ _ _, rfl, by omega, by simp only [maxLen]; omega, fun hf => ?_, hsh, hi, by simp [madeCells]⟩
 have := eq_of_beq hf; omega
theorem OS_nil {o : Bool} : OS P I w o [] [] [] := by
 cases o
 ·exact ⟨rfl, by simp [V.RL]⟩
 ·show V.OL P I w [] [] []
  exact OL_nil.2 ⟨rfl, rfl⟩
theorem noSeal_of_XL : ∀ {l : List V} {F : List Nat} {vs : List Value}, OXL P I μ w F l vs → hasSeal l = false
 | [], _, _, _ => rfl
 | x :: t, _, _, h => by
  obtain ⟨u, us, F1, F2, _, _, h1, h2⟩ := h
  have ih := noSeal_of_XL h2
  rcases seal_or x with ⟨o, c, rfl⟩ | hx
  ·cases o <;> (unfold OX at h1; simp [mkS, V.isO, V.R] at h1)
  ·rw [hasSeal_cons hx]; exact ih
theorem cut_sound {F : List Nat} {l : List V} {vs : List Value} {off k : Nat} (h : CR P I μ w F l vs) (hk : (((flat l).drop off).take k).length = k) : (∃ F', F'.Sublist F ∧ CR P I μ w F' (cutV l off k) ((vs.drop off).take k)) ∧ (flat (cutV l off k)).length = k := by
 unfold cutV
 split
 ·rename_i hc
  obtain ⟨rfl, rfl⟩ := hc
  refine ⟨⟨F, .refl _, ?_⟩, rfl⟩
  rw [List.drop_zero, List.take_of_length_le (Nat.le_of_eq h.length)]
  exact h
 ·obtain ⟨F1, F2, rfl, _, h2⟩ := h.toXL.split off
  obtain ⟨F3, F4, rfl, h3, _⟩ := h2.split k
  have hs := noSeal_of_XL h3
  refine ⟨⟨F3, ?_, .ofXL hs h3⟩, by rw [flat_noSeal hs]; exact hk⟩
  exact (List.sublist_append_left F3 F4).trans (List.sublist_append_right F1 _)
theorem one_noO {l : List V} (h : l.all V.one = true) : noOs l = true := by
 unfold noOs
 rw [List.all_eq_true] at h ⊢
 intro c hc
 have := h c hc
 cases c <;> first | rfl | simp [V.one] at this
theorem src_sound {size : Nat} {x : V} {vx : Value} {bs : List Nat} {m : Nat} {news : List V} (h : srcV hp size x = some (bs, m, news)) (hx : V.R P I μ w x vx) (hh : ∀ b ∈ bs, ∀ blk, hp[b]? = some (some blk) → Holds P I μ w b blk) :
  ∃ a c nv, vx = .slice a m c ∧ (flat news).length = m * size ∧ CR P I μ w [] news nv ∧ (∀ u ∈ nv, u.oneCell' = true) ∧ Lies w a nv ∧ (∀ b ∈ bs, b < hp.length) ∧ noOs (flat news) = true := by
 unfold srcV at h
 split at h
 ·rename_i b off m' full
  split at h
  case h_2 => cases h
  case h_1 blk hb =>
  split at h
  case isFalse => cases h
  case isTrue hc =>
  cases h
  have hbl : ∀ b' ∈ [b], b' < hp.length := by simpa using (List.getElem?_eq_some_iff.1 hb).1
  have hno : noOs (flat (cutV blk.1 off (m * size))) = true := by
   have hone := one_noO hc.2
   unfold cutV
   split
   ·rename_i h0
    obtain ⟨rfl, h0⟩ := h0
    rwa [List.drop_zero, List.take_of_length_le (by omega)] at hone
   ·have hf : ∀ l : List V, l.all V.one = true → flat l = l := by
     intro l hl
     refine flat_noSeal ?_
     induction l with
     | nil => rfl
     | cons x t ih =>
      rw [List.all_cons, Bool.and_eq_true] at hl
      rcases seal_or x with ⟨o, c, rfl⟩ | hx
      ·cases o <;> simp [mkS, V.one] at hl
      ·have := ih hl.2
       rw [hasSeal_cons hx]; exact this
    rw [hf _ hc.2]; exact hone
  simp only [V.R] at hx
  rcases hx with ⟨g, cap, e, N, i, hg, rfl, _, _, _, hsh, _⟩ | ⟨rfl, rfl, a', rfl, ha'⟩
  ·obtain ⟨cs, hrow, hsz, hrl⟩ := (hh b (by simp) blk hb).rowS hg hsh
   have hone := one_noO hc.2
   have hpart := hrl.part off (m * size) hone
   obtain ⟨⟨F', _, hr2⟩, hlen⟩ := cut_sound (off := off) hrl hc.1
   have hF : F' = [] := by
    have hx2 := hr2.toXL
    unfold cutV at hx2
    split at hx2
    ·rename_i h0
     obtain ⟨rfl, h0⟩ := h0
     rw [List.drop_zero, List.take_of_length_le (by omega)] at hone
     exact (hx2.toRL hone).1
    ·rw [flat_of_RL hpart] at hx2
     exact (hx2.toRL hone).1
   subst hF
   refine ⟨_, cap, _, rfl, hlen, hr2, ones hpart hc.2, .inr ⟨_, rfl, hrow.lt, fun j u hu => ?_⟩, hbl, hno⟩
   rw [Addr.add_mid]
   exact hrow.range off _ _ j u hu
  ·refine ⟨a', 0, [], rfl, ?_, ?_, by simp, .inl rfl, hbl, hno⟩
   ·have : (((flat blk.1).drop 0).take (0 * size)) = [] := by simp
    simp only [Nat.zero_mul, cutV]
    split
    ·rename_i h0; exact h0.2
    ·simp [flat]
   ·simp only [Nat.zero_mul, cutV]
    split
    ·rename_i h0
     have hh' := hh b (by simp) blk hb
     have hfl : flat blk.1 = [] := List.eq_nil_of_length_eq_zero h0.2
     have : ∀ l : List V, flat l = [] → CR P I μ w [] l [] := by
      intro l
      induction l with
      | nil => intro _; exact CR.nil_iff.2 ⟨rfl, rfl⟩
      | cons x t ih =>
       intro hl
       rcases seal_or x with ⟨o, c, rfl⟩ | hx
       ·rw [flat_sealO, List.append_eq_nil_iff] at hl
        rw [hl.1]
        exact CR.sealO_iff.2 ⟨[], [], [], [], rfl, rfl, OS_nil, ih hl.2⟩
       ·rw [flat_cons hx] at hl; cases hl
     exact this _ hfl
    ·simp only [List.take_zero]; exact CR.nil_iff.2 ⟨rfl, rfl⟩
 ·rename_i m' full cs
  split at h
  case isFalse => cases h
  case isTrue hc =>
  cases h
  simp only [V.R] at hx
  obtain ⟨a, cap, rfl, hnc, _, hnone, hmem⟩ := hx
  have key : ∃ nv : List Value, V.RL P I noMu w (cs.take (m * size)) nv ∧ Lies w a nv := by
   rcases hmem with rfl | rfl | ⟨g, off, rfl, _, cells, e, fr, hg, hrl⟩
   ·exact ⟨[], by simp [V.RL], .inl rfl⟩
   ·exact ⟨[], by simp [V.RL], .inl rfl⟩
   ·refine ⟨((cells.toList.drop off).take cs.length).take (m * size), hrl.take _, .inr ⟨_, rfl, (Array.getElem?_eq_some_iff.1 hg).1, fun j v hv => ?_⟩⟩
    rw [Addr.add_mid]
    rw [List.getElem?_take] at hv
    split at hv
    ·rw [List.getElem?_take] at hv
     split at hv
     ·rw [List.getElem?_drop] at hv
      simpa [World.cell?, hg] using hv
     ·cases hv
    ·cases hv
  obtain ⟨nv, h1, h2⟩ := key
  exact ⟨_, cap, nv, rfl, by simpa [flat] using hc.1, .sealed h1, ones h1 hc.2, h2, by simp, by simpa [flat] using one_noO hc.2⟩
 ·cases h
theorem lies_cells {a : Option Addr} {nv : List Value} (h : Lies w a nv) (hne : nv ≠ []) : ∃ ad, a = some ad ∧ ∀ j u, nv[j]? = some u → w.cell? (ad.add j) = some u := by
 rcases h with h | ⟨ad, h1, _, h2⟩
 ·exact absurd h hne
 ·exact ⟨ad, h1, h2⟩
theorem append_zero {t ty elem : TypeId} {i : TypeInfo} (hu : P.underlying t = some (.slice elem)) (hi : P.info? elem = some i) (b : Option Addr) (n cap : Nat) (hn : n ≤ cap) (a : Option Addr) (c : Nat) :
  (Builtin.append_ #[t, t] ty #[.slice b n cap, .slice a 0 c]).run P w = .ok (.slice b n cap) w := by
 cases b <;> cases a <;> simp [Builtin.append_, run_underlying hu, sizeOf, typeInfo, hi, Builtin.lenOf, Builtin.firstCells, loadCells, loadCellsFrom, hn, storeCells]
theorem append_new {t ty elem : TypeId} {i : TypeInfo} {z : Value} (hu : P.underlying t = some (.slice elem)) (hi : P.info? elem = some i) (hz : i.zero = some z) (hzs : z.cells.size = i.size) (hpos : 0 < i.size)
  {b : Option Addr} {n cap : Nat} {F : List Nat} {olds news : List V} {ov nv : List Value} (hol : (flat olds).length = n * i.size) (ho : CR P I μ w F olds ov) (hb : b = none ∧ n = 0 ∧ cap = 0 ∨ ∃ ad, b = some ad ∧ ∀ j u, ov[j]? = some u → w.cell? (ad.add j) = some u)
  {a : Option Addr} {m c : Nat} (hm : 0 < m) (hnl : (flat news).length = m * i.size) (hn : CR P I μ w [] news nv) (hl : Lies w a nv) (hcap : cap < n + m) (h63 : n + m ≤ maxLen) (hby : (n + m) * i.bytes ≤ 140737488355328) :
  ∃ newCap row, (Builtin.append_ #[t, t] ty #[.slice b n cap, .slice a m c]).run P w = .ok (.slice (some ⟨w.heap.size, 0, none⟩) (n + m) newCap) (w.drew.alloc (.cells row elem)) ∧ Cont P I μ w F (olds ++ news) row ∧ row.size = newCap * i.size ∧ n + m ≤ newCap ∧ newCap ≤ maxLen := by
 have hnv := hn.length
 have hov := ho.length
 have hne : nv ≠ [] := by
  rintro rfl
  have : 0 < m * i.size := Nat.mul_pos hm hpos
  simp at hnv; omega
 obtain ⟨ad, rfl, hcells⟩ := lies_cells hl hne
 have hsmall : n + m ≤ 9223372036854775807 := by simp only [maxLen] at h63; omega
 have fin : ∀ newCap, n + m ≤ newCap → ∀ row : Array Value, row = ov.toArray ++ nv.toArray ++ Builtin.zeroCells z.cells (newCap - (n + m)) →
   Cont P I μ w F (olds ++ news) row ∧ row.size = newCap * i.size := by
  intro newCap hge row hrow
  have hrs : row.size = newCap * i.size := by
   rw [hrow]
   simp only [Array.size_append, List.size_toArray, size_zeroCells, hzs, hov, hnv, hol, hnl]
   rw [← Nat.add_mul, ← Nat.add_mul]; congr 1; omega
  have hlen : (flat (olds ++ news)).length = (n + m) * i.size := by rw [flat_append, List.length_append, hol, hnl, Nat.add_mul]
  have htake : row.toList.take (flat (olds ++ news)).length = ov ++ nv := by
   rw [hrow]
   have e : (ov.toArray ++ nv.toArray ++ Builtin.zeroCells z.cells (newCap - (n + m))).toList = (ov ++ nv) ++ (Builtin.zeroCells z.cells (newCap - (n + m))).toList := by simp
   have e2 : (flat (olds ++ news)).length = (ov ++ nv).length := by simp only [flat_append, List.length_append, hov, hnv]
   rw [e, e2]; exact List.take_left
  have hle2 : (n + m) * i.size ≤ newCap * i.size := Nat.mul_le_mul_right _ hge
  refine ⟨⟨by rw [hlen, hrs]; exact hle2, ?_⟩, hrs⟩
  rw [htake]
  have := ho.append hn
  rwa [List.append_nil] at this
 rcases hb with ⟨rfl, rfl, rfl⟩ | ⟨bd, rfl, hb⟩
 ·have hox : ov = [] := List.eq_nil_of_length_eq_zero (by rw [hov, hol]; simp)
  subst hox
  have hr := run_append_nil (P := P) w t ty elem i z hu hi hz ad m c nv (by rw [hnv, hnl]) hcells hm (by omega) (by simp only [Nat.zero_add] at hby; omega)
  have hge : 0 + m ≤ grownCap w m 0 elem := by have := grownCap_ge w m 0 elem; omega
  obtain ⟨h1, h2⟩ := fin (grownCap w m 0 elem) hge _ rfl
  refine ⟨grownCap w m 0 elem, _, ?_, h1, h2, hge, grownCap_le_maxLen w m 0 elem (by omega)⟩
  rw [hr]; simp
 ·have hr := run_append_grow (P := P) w t ty elem i z hu hi hz bd n cap ov (by rw [hov, hol]) hb ad m c nv (by rw [hnv, hnl]) hcells hcap (by omega) (growslice_fits (by omega) hby)
  obtain ⟨h1, h2⟩ := fin (grownCap w (n + m) cap elem) (grownCap_ge w (n + m) cap elem) _ rfl
  exact ⟨_, _, hr, h1, h2, grownCap_ge w (n + m) cap elem, grownCap_le_maxLen w (n + m) cap elem h63⟩
theorem append_sound {t t' ty : TypeId} {x y : V} {vx vy : Value} (h : evAppend P hp t t' x y = some out) (hx : V.R P I μ w x vx) (hy : V.R P I μ w y vy) (pre : Pre P I μ w hp out.acc out.hp.length) :
  ∃ val w' μ', (Builtin.append_ #[t, t'] ty #[vx, vy]).run P w = .ok val w' ∧ V.R P I μ' w' out.v val ∧ Good P I I μ μ' w w' hp out.hp out.acc out.wr := by
 unfold evAppend at h
 split at h
 case h_2 => cases h
 case h_1 elem hu =>
 split at h
 case h_2 => cases h
 case h_1 i hi =>
 split at h
 case h_2 => cases h
 case h_1 z hz htt =>
 have htt' : t = t' := eq_of_beq htt
 subst htt'
 split at h
 case isFalse => cases h
 case isTrue hcond =>
 obtain ⟨hpos, hzs⟩ := hcond
 split at h
 case h_2 => cases h
 case h_1 bs m news hsrc =>
 have hdrew : ∀ row : Array Value, Evo I w (w.drew.alloc (.cells row elem)) (fun _ => False) := fun row => (Evo.drew w _).trans (.alloc _ _ _) (.refl _) (fun _ _ h => h)
 have hnew : ∀ row : Array Value, (w.drew.alloc (.cells row elem)).heap[w.heap.size]? = some (.cells row elem (0, 0)) := fun row => heap_alloc_new w.drew _
 split at h
 ·-- onto an own slice
  rename_i b off n full
  split at h
  case h_2 => cases h
  case h_1 blk hb =>
  split at h
  case isFalse => cases h
  case isTrue hc =>
  obtain ⟨hl, h63, hby, he, hoff⟩ := hc
  subst hoff
  cases h
  simp only [V.R] at hx
  obtain ⟨a, c, nv, rfl, h1, h2, hone, h3, _⟩ := src_sound hsrc hy fun b' hb' => pre.holds b' (by simp [hb'])
  have hpre1 : Pre P I μ w hp (b :: bs) (hp.length + 1) := by simpa using pre
  have hnv := h2.length
  have hmul2 : (n + m) * i.size = n * i.size + m * i.size := Nat.add_mul _ _ _
  have hnew2 : ∀ (F : List Nat) (newCap : Nat) (row : Array Value), F.Sublist (μ.ft b) → Cont P I μ w F (cutV blk.1 0 (n * i.size) ++ news) row → row.size = newCap * i.size → n + m ≤ newCap → newCap ≤ maxLen →
    V.R P I (μ.put hp.length w.heap.size F) (w.drew.alloc (.cells row elem)) (.sl hp.length 0 (n + m) false) (.slice (some ⟨w.heap.size, 0, none⟩) (n + m) newCap) ∧
    Good P I I μ (μ.put hp.length w.heap.size F) w (w.drew.alloc (.cells row elem)) hp (hp.set b none ++ [some (cutV blk.1 0 (n * i.size) ++ news, elem)]) (b :: bs) [b] := by
   intro F newCap row hF hcont hrs hge hcm
   refine ⟨?_, ?_⟩
   ·simp only [V.R]
    exact .inl ⟨_, newCap, elem, row.size, i, Mu.put_at _ _ _ _, rfl, hge, hcm, by simp, shape_of (hnew row), hi, by omega⟩
   ·exact Good.killC (blk' := (cutV blk.1 0 (n * i.size) ++ news, elem)) hpre1 (by simp) hb (hdrew row) (fun k hk => hk.elim) (fun k _ h => h) hF (.inl ⟨Nat.le_refl _, by simp⟩) (fun hi => Nat.lt_irrefl _ (pre.ilt _ hi)) (hnew row) (.inl (Nat.le_refl _)) hcont
  rcases hx with ⟨g, cap, e', N, i', hg, rfl, hncap, hcm, hfull, hsh, hi', hN⟩ | ⟨_, rfl, a', rfl, ha'⟩
  ·obtain ⟨cs, fr, hgi, hw, hfr, ⟨hsz, hcr⟩, hnd, _⟩ := (pre.holds b (by simp) blk hb).realS hg hsh
   have hrow : Row w g blk.2 cs := ⟨fr, hw, hfr⟩
   obtain ⟨⟨F', hF', hcut⟩, hcutl⟩ := cut_sound (off := 0) hcr hl
   rw [List.drop_zero] at hcut
   have hshape := shape_of hw
   rw [hsh] at hshape
   cases hshape
   rw [he, hi] at hi'
   cases hi'
   have hnle : n * i.size ≤ (flat blk.1).length := by simp at hl; omega
   have hlen : (flat (cutV blk.1 0 (n * i.size) ++ news)).length = (n + m) * i.size := by rw [flat_append, List.length_append, hcutl, h1, hmul2]
   by_cases hroom : n + m ≤ cap
   ·have hmul : (n + m) * i.size ≤ cap * i.size := Nat.mul_le_mul_right _ hroom
    have hcsz : (cs.toList.take (n * i.size) ++ nv ++ cs.toList.drop (n * i.size + nv.length)).toArray.size = cs.size := by
     simp only [List.size_toArray, List.length_append, List.length_take, List.length_drop, Array.length_toList]; omega
    have hr : (Builtin.append_ #[t, t] ty #[.slice (some ⟨g, 0, none⟩) n cap, .slice a m c]).run P w =
      .ok (.slice (some ⟨g, 0, none⟩) (n + m) cap) (w.setRow g (cs.toList.take (n * i.size) ++ nv ++ cs.toList.drop (n * i.size + nv.length)).toArray) := by
     cases m with
     | zero =>
      have hx0 : nv = [] := List.eq_nil_of_length_eq_zero (by rw [hnv, h1]; simp)
      subst hx0
      rw [append_zero hu hi _ n cap hncap a c]
      simp only [List.append_nil, List.length_nil, Nat.add_zero, List.take_append_drop, Array.toArray_toList]
      rw [setRow_self w g cs _ fr hw]
     | succ m =>
      have hne : nv ≠ [] := by
       rintro rfl
       have : 0 < (m + 1) * i.size := Nat.mul_pos (Nat.succ_pos m) hpos
       simp at hnv; omega
      obtain ⟨ad, rfl, hcells⟩ := lies_cells h3 hne
      have hf := run_firstCells_some (P := P) w i.size (m + 1) ad (m + 1) c nv (by rw [hnv, h1]) hcells
      have hst := storeCells_row P g (n * i.size) blk.2 nv 0 cs w hrow (by omega) hone
      simp only [Nat.add_zero] at hst
      simp [Builtin.append_, run_underlying hu, sizeOf, typeInfo, hi, Builtin.lenOf, hroom, hf, Addr.add_lit, hst]
    have hE0 : Evo I w (w.setRow g (cs.toList.take (n * i.size) ++ nv ++ cs.toList.drop (n * i.size + nv.length)).toArray) (fun k => k = g) := .setRow w g cs _ _ fr hw hcsz hgi
    have hgF : ∀ k ∈ F', ¬ k = g := by
     rintro k hk rfl
     rw [List.nodup_cons] at hnd
     exact hnd.1 (hF'.subset hk)
    refine ⟨_, _, μ.put hp.length g F', hr, ?_, Good.killC (blk' := (cutV blk.1 0 (n * i.size) ++ news, elem)) hpre1 (by simp) hb hE0 (fun k hk => by rw [hk]; exact .inl hg) hgF hF' (.inr hg) hgi (by rw [← he]; exact setRow_heap w g cs _ _ fr hw) (by rw [hcsz]; exact hfr) ⟨?_, ?_⟩⟩
    ·simp only [V.R]
     refine .inl ⟨g, cap, elem, cs.size, i, Mu.put_at _ _ _ _, rfl, hroom, hcm, by simp, ?_, hi, by omega⟩
     rw [shape_of (setRow_heap w g cs _ _ fr hw), hcsz, he]
    ·show (flat (cutV blk.1 0 (n * i.size) ++ news)).length ≤ _
     rw [hcsz, hlen]; omega
    ·show CR P I μ w F' (cutV blk.1 0 (n * i.size) ++ news) (List.take (flat (cutV blk.1 0 (n * i.size) ++ news)).length _)
     have e1 : (List.take (n * i.size) cs.toList ++ nv).length = (flat (cutV blk.1 0 (n * i.size) ++ news)).length := by
      rw [hlen, List.length_append, List.length_take, hnv, h1, hmul2, Array.length_toList]; congr 1; omega
     rw [← e1]
     simp only [List.append_assoc]
     rw [← List.append_assoc, List.take_left' rfl]
     rw [List.take_take, Nat.min_eq_left hnle] at hcut
     have := hcut.append h2
     rwa [List.append_nil] at this
   ·have hm : 0 < m := by omega
    obtain ⟨newCap, row, hr, hcont, hrs, hge, hcm2⟩ := append_new (P := P) (ty := ty) hu hi hz hzs hpos hcutl hcut (.inr ⟨_, rfl, fun j u hu => by rw [Addr.add_mid]; exact hrow.range 0 _ _ j u (by simpa using hu)⟩) (m := m) (c := c) hm h1 h2 h3 (show cap < n + m by omega) h63 hby
    obtain ⟨k1, k2⟩ := hnew2 F' newCap row hF' hcont hrs hge hcm2
    exact ⟨_, _, _, hr, k1, k2⟩
  ·-- onto one that is nil
   have hcut0 : CR P I μ w [] (cutV blk.1 0 (0 * i.size)) [] ∧ (flat (cutV blk.1 0 (0 * i.size))).length = 0 * i.size := by
    have hnil : ∀ l : List V, flat l = [] → CR P I μ w [] l [] := by
     intro l
     induction l with
     | nil => intro _; exact CR.nil_iff.2 ⟨rfl, rfl⟩
     | cons x t ih =>
      intro hl
      rcases seal_or x with ⟨o, c, rfl⟩ | hx
      ·rw [flat_sealO, List.append_eq_nil_iff] at hl
       rw [hl.1]
       exact CR.sealO_iff.2 ⟨[], [], [], [], rfl, rfl, OS_nil, ih hl.2⟩
      ·rw [flat_cons hx] at hl; cases hl
    unfold cutV
    split
    ·rename_i h0
     exact ⟨hnil _ (List.eq_nil_of_length_eq_zero (by simpa using h0.2)), h0.2⟩
    ·simp only [Nat.zero_mul, List.take_zero]
     exact ⟨CR.nil_iff.2 ⟨rfl, rfl⟩, rfl⟩
   cases m with
   | zero =>
    have hx0 : nv = [] := List.eq_nil_of_length_eq_zero (by rw [hnv, h1]; simp)
    subst hx0
    refine ⟨_, w, μ.put hp.length 0 [] |> fun _ => ⟨μ.nm, fun c => if c = hp.length then [] else μ.ft c⟩, append_zero hu hi a' 0 0 (Nat.le_refl _) a c, ?_, ?_⟩
    ·simp only [V.R]; exact .inr ⟨trivial, trivial, a', rfl, ha'⟩
    ·have hbl : b < hp.length := (List.getElem?_eq_some_iff.1 hb).1
     have hfresh := hpre1.fresh hp.length (Nat.le_refl _) (by omega)
     have hown : ∀ c k, c ≠ hp.length → (Mu.own ⟨μ.nm, fun c => if c = hp.length then [] else μ.ft c⟩ c k) → μ.own c k := by
      intro c k hc hk
      rcases hk with hk | hk
      ·exact .inl hk
      ·simp only [hc, if_false] at hk; exact .inr hk
     have hno : ∀ k, ¬ Mu.own ⟨μ.nm, fun c => if c = hp.length then [] else μ.ft c⟩ hp.length k := by
      intro k hk
      rcases hk with hk | hk
      ·have hk' : μ hp.length = some k := hk
       rw [hfresh] at hk'; cases hk'
      ·simp at hk
     refine ⟨.refl _, fun _ h => .inl h, .refl _ _, fun _ _ h => h, fun b g h => .inl h, fun c _ hn => ?_, fun c hc blk'' h => ?_, fun c hc blk'' h k hk => ?_, fun c d b1 b2 k hne hc hd h1 h2 k1 k2 => ?_⟩
     ·show (if c = hp.length then [] else μ.ft c) = μ.ft c
      rw [if_neg (by rintro rfl; exact hn ⟨Nat.le_refl _, by simp⟩)]
     ·rcases app_at h with ⟨hl, h⟩ | ⟨hl, rfl⟩
      ·obtain ⟨hcb, h⟩ := setnone_at h
       simp only [List.length_set] at hl
       have hc' : c ∈ b :: bs := by rcases hc with hc | hc; exact hc; omega
       exact (hpre1.holds c hc' blk'' h).keep (.refl w (fun _ => False)) (.refl _) (fun _ _ h => h) (fun h => h) (by show (if c = hp.length then [] else μ.ft c) = μ.ft c; rw [if_neg (by omega)]) (fun _ _ h => h) (fun k hk => (hpre1.holds c hc' blk'' h).nimm hk)
      ·simp only [List.length_set] at hl
       subst hl
       exact .inr (.inl ⟨hfresh, by simp⟩)
     ·rcases app_at h with ⟨hl, h⟩ | ⟨hl, rfl⟩
      ·obtain ⟨hcb, h⟩ := setnone_at h
       simp only [List.length_set] at hl
       rcases hc with hc | hc
       ·omega
       ·exact absurd (by simpa using hc) hcb
      ·simp only [List.length_set] at hl
       subst hl
       exact (hno k hk).elim
     ·rcases app_at h1 with ⟨hl, h1⟩ | ⟨hl, _⟩
      ·obtain ⟨hcb, h1⟩ := setnone_at h1
       simp only [List.length_set] at hl
       rcases app_at h2 with ⟨hl', h2⟩ | ⟨hl', _⟩
       ·obtain ⟨hdb, h2⟩ := setnone_at h2
        simp only [List.length_set] at hl'
        have hc' : c ∈ b :: bs := by rcases hc with hc | hc; exact hc; omega
        have hd' : d ∈ b :: bs := by rcases hd with hd | hd; exact hd; omega
        exact hpre1.inj c hc' d hd' _ _ k hne h1 h2 (hown c k (by omega) k1) (hown d k (by omega) k2)
       ·simp only [List.length_set] at hl'
        subst hl'; exact (hno k k2).elim
      ·simp only [List.length_set] at hl
       subst hl; exact (hno k k1).elim
   | succ m =>
    obtain ⟨newCap, row, hr, hcont, hrs, hge, hcm2⟩ := append_new (P := P) (ty := ty) (b := a') (cap := 0) hu hi hz hzs hpos hcut0.2 hcut0.1 (by rcases ha' with h | ⟨g, off, h⟩; exact .inl ⟨h, rfl, rfl⟩; exact .inr ⟨_, h, by simp⟩) (m := m + 1) (c := c) (by omega) h1 h2 h3 (by omega) h63 hby
    obtain ⟨k1, k2⟩ := hnew2 [] newCap row (List.nil_sublist _) hcont hrs hge hcm2
    exact ⟨_, _, _, hr, k1, k2⟩
 ·rename_i n full cs0
  split at h
  ·cases h
   simp only [V.R] at hx
   have hx' := hx
   obtain ⟨a0, cap, rfl, hn, _⟩ := hx
   obtain ⟨a, c, nv, rfl, _⟩ := src_sound hsrc hy pre.holds
   exact ⟨_, _, _, append_zero hu hi a0 n cap hn a c, by simp only [V.R]; exact hx', Good.same hp pre⟩
  ·split at h
   case isFalse => cases h
   case isTrue hc =>
   obtain ⟨hf, hl, h63, hby⟩ := hc
   subst hf
   cases h
   simp only [V.R] at hx
   obtain ⟨a0, cap, rfl, _, hfull, hnone, hmem⟩ := hx
   obtain rfl : cap = n := by simpa using hfull
   obtain ⟨a, c, nv, rfl, h1, h2, _, h3, _⟩ := src_sound hsrc hy pre.holds
   have key : ∃ ov : List Value, V.RL P I noMu w (cs0.take (cap * i.size)) ov ∧ (a0 = none ∧ cap = 0 ∧ cap = 0 ∨ ∃ ad, a0 = some ad ∧ ∀ j u, ov[j]? = some u → w.cell? (ad.add j) = some u) := by
    have nilC : cs0.take (cap * i.size) = [] → ∃ ov : List Value, V.RL P I noMu w (cs0.take (cap * i.size)) ov ∧ (a0 = none ∧ cap = 0 ∧ cap = 0 ∨ ∃ ad, a0 = some ad ∧ ∀ j u, ov[j]? = some u → w.cell? (ad.add j) = some u) := by
     intro h0
     refine ⟨[], by rw [h0]; simp [V.RL], ?_⟩
     rcases hnone with ⟨rfl, h0⟩ | ⟨g, off, rfl⟩
     ·exact .inl ⟨rfl, h0, h0⟩
     ·exact .inr ⟨_, rfl, by simp⟩
    rcases hmem with rfl | h0 | ⟨g, off, rfl, _, cells, e, fr, hg, hrl⟩
    ·exact nilC (by simp)
    ·exact nilC (by rw [h0]; simp)
    ·refine ⟨((cells.toList.drop off).take cs0.length).take (cap * i.size), hrl.take _, .inr ⟨_, rfl, fun j v hv => ?_⟩⟩
     rw [Addr.add_mid]
     rw [List.getElem?_take] at hv
     split at hv
     ·rw [List.getElem?_take] at hv
      split at hv
      ·rw [List.getElem?_drop] at hv
       simpa [World.cell?, hg] using hv
      ·cases hv
     ·cases hv
   obtain ⟨ov, ho, hov⟩ := key
   obtain ⟨newCap, row, hr, hcont, hrs, hge, hcm2⟩ := append_new (P := P) (ty := ty) (μ := μ) (olds := [.sld (cs0.take (cap * i.size))]) hu hi hz hzs hpos (by simpa [flat] using hl) (.sealed ho) hov (Nat.succ_pos _) h1 h2 h3 (by omega) h63 hby
   obtain ⟨hg, hsh⟩ := Good.newC (P := P) (I := I) (μ := μ) (w := w) (hp := hp) (blk := ([.sld (cs0.take (cap * i.size))] ++ news, elem)) (cs := row) (fr := (0, 0)) (wd := w.drew) (.inr rfl) (by simpa using pre) (.inl (Nat.le_refl _)) hcont
   refine ⟨_, _, _, hr, ?_, hg⟩
   simp only [V.R]
   exact .inl ⟨_, newCap, elem, row.size, i, Mu.put_at _ _ _ _, rfl, hge, hcm2, by simp, hsh, hi, by omega⟩
 ·cases h
end
end Go.Proofs.YtfncaghjfgnnhaaGreatDoor

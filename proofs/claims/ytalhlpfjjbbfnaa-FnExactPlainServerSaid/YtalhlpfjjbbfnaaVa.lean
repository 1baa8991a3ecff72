/-
  A small evaluator over values whose addresses are names: values, how they stand for the machine's values, what a step may change.
-/
import Derived.Test.YtalhlpfjjbbfnaaBase
namespace Go.Proofs.Ytalhlpfjjbbfnaa
open Go.RowKit

/-- Values; an address is the number of an abstract block. -/
inductive V where
  | int (k : IntKind) (n : Int)
  | bool (b : Bool)
  | str (s : List UInt8)
  | nilp
  | ptr (b off : Nat)
  | nils
  | sl (b off n : Nat) (full : Bool)
  | emp (full : Bool)
  | agg (cs : List V)
  | tup (vs : List V)
  | fn (f : FuncId) (cap : List V)
  | nilf
  | lit (v : Value)
  | junk

/-- An abstract block: its cells and their element type; none: nothing is known of it. -/
abbrev Blk := List V × TypeId
abbrev Hp := List (Option Blk)

def ofScalar : Value → V
  | .int k n => .int k n
  | .bool b => .bool b
  | .string s => .str s.data.toList
  | .pointer none => .nilp
  | .slice none 0 0 => .nils
  | .nilFunc => .nilf
  | .nilIface => .lit .nilIface
  | .map none => .lit (.map none)
  | _ => .junk
def ofValue : Value → V
  | .agg cs => .agg (cs.toList.map ofScalar)
  | v => ofScalar v

abbrev Mu := Nat → Option Nat

mutual
def V.R (P : Program) (μ : Mu) (w : World) : V → Value → Prop
  | .int k n, v => v = .int k n
  | .bool b, v => v = .bool b
  | .str s, v => v = .string ⟨s.toArray⟩
  | .nilp, v => v = .pointer none
  | .ptr b off, v => ∃ g, μ b = some g ∧ v = .pointer (some ⟨g, off, none⟩)
  | .nils, v => v = .slice none 0 0
  | .sl b off n full, v => ∃ g cap e N i, μ b = some g ∧ v = .slice (some ⟨g, off, none⟩) n cap ∧ n ≤ cap ∧ cap ≤ maxLen ∧ (full = true → cap = n) ∧ w.shape? g = some (e, N) ∧ P.info? e = some i ∧ off + cap * i.size ≤ N
  | .emp full, v => ∃ a cap, v = .slice (some a) 0 cap ∧ (full = true → cap = 0)
  | .agg cs, v => ∃ vs, v = .agg vs ∧ V.RL P μ w cs vs.toList
  | .tup cs, v => ∃ vs, v = .tuple vs ∧ V.RL P μ w cs vs.toList
  | .fn f cap, v => ∃ vs, v = .func (.func f) #[] vs ∧ V.RL P μ w cap vs.toList
  | .nilf, v => v = .nilFunc
  | .lit u, v => v = u
  | .junk, _ => True
def V.RL (P : Program) (μ : Mu) (w : World) : List V → List Value → Prop
  | [], vs => vs = []
  | c :: cs, vs => ∃ u us, vs = u :: us ∧ V.R P μ w c u ∧ V.RL P μ w cs us
end

section
variable {P : Program} {μ μ' : Mu} {w w' : World}

/-- The later world keeps what is not in X. -/
structure Evo (w w' : World) (X : Nat → Prop) : Prop where
  os : w'.os = w.os
  tape : w'.tape = w.tape
  output : w'.output = w.output
  size : w.heap.size ≤ w'.heap.size
  block : ∀ k, k < w.heap.size → ¬ X k → w'.heap[k]? = w.heap[k]?
  shape : ∀ k s, w.shape? k = some s → w'.shape? k = some s

def MuLe (μ μ' : Mu) : Prop := ∀ b g, μ b = some g → μ' b = some g

theorem Evo.refl (w : World) (X : Nat → Prop) : Evo w w X := ⟨rfl, rfl, rfl, Nat.le_refl _, fun _ _ _ => rfl, fun _ _ h => h⟩
theorem Evo.trans {a b c : World} {X Y : Nat → Prop} (h : Evo a b X) (k : Evo b c Y) (hY : ∀ j, j < a.heap.size → Y j → X j) : Evo a c X :=
  ⟨k.os.trans h.os, k.tape.trans h.tape, k.output.trans h.output, Nat.le_trans h.size k.size,
   fun j hj hn => (k.block j (Nat.lt_of_lt_of_le hj h.size) (fun hy => hn (hY j hj hy))).trans (h.block j hj hn), fun j s hs => k.shape j s (h.shape j s hs)⟩
theorem Evo.mono {a b : World} {X Y : Nat → Prop} (h : Evo a b X) (hXY : ∀ j, X j → Y j) : Evo a b Y :=
  ⟨h.os, h.tape, h.output, h.size, fun j hj hn => h.block j hj (fun hx => hn (hXY j hx)), h.shape⟩
theorem MuLe.refl (μ : Mu) : MuLe μ μ := fun _ _ h => h
theorem MuLe.trans {a b c : Mu} (h : MuLe a b) (k : MuLe b c) : MuLe a c := fun x g e => k x g (h x g e)

theorem shape_of {g : Nat} {cs : Array Value} {e : TypeId} {fr : Nat × Nat} (h : w.heap[g]? = some (.cells cs e fr)) : w.shape? g = some (e, cs.size) := by
  simp [World.shape?, h]
theorem shape_lt {g : Nat} {s : TypeId × Nat} (h : w.shape? g = some s) : g < w.heap.size := by
  unfold World.shape? at h
  split at h
  · rename_i hh; exact (Array.getElem?_eq_some_iff.1 hh).1
  · cases h
theorem shape_alloc (w : World) (o : Obj) (k : Nat) (s : TypeId × Nat) (h : w.shape? k = some s) : (w.alloc o).shape? k = some s := by
  have := shape_lt h
  unfold World.shape? at *
  rw [Below.heap_alloc w o k this]
  exact h
theorem Evo.alloc (w : World) (o : Obj) (X : Nat → Prop) : Evo w (w.alloc o) X :=
  ⟨rfl, rfl, rfl, by simp, fun k hk _ => Below.heap_alloc w o k hk, fun k s h => shape_alloc w o k s h⟩
theorem Evo.drew (w : World) (X : Nat → Prop) : Evo w w.drew X := ⟨rfl, rfl, rfl, Nat.le_refl _, fun _ _ _ => rfl, fun _ _ h => h⟩
theorem Evo.setRow (w : World) (g : Nat) (old cs : Array Value) (e : TypeId) (fr : Nat × Nat) (hg : w.heap[g]? = some (.cells old e fr)) (hs : cs.size = old.size) : Evo w (w.setRow g cs) (fun k => k = g) := by
  refine ⟨rfl, rfl, rfl, by simp, fun k hk hn => setRow_other w g k cs hn, fun k s h => ?_⟩
  by_cases hkg : k = g
  · subst hkg
    rw [shape_of (setRow_heap w k old cs e fr hg), hs, ← shape_of hg, h]
  · unfold World.shape? at *
    rw [setRow_other w g k cs hkg]
    exact h

mutual
theorem V.R.keep (hE : ∀ k s, w.shape? k = some s → w'.shape? k = some s) (hM : MuLe μ μ') : ∀ (c : V) (v : Value), V.R P μ w c v → V.R P μ' w' c v
  | .int _ _, _, h => by simpa [V.R] using h
  | .bool _, _, h => by simpa [V.R] using h
  | .str _, _, h => by simpa [V.R] using h
  | .nilp, _, h => by simpa [V.R] using h
  | .ptr _ _, _, h => by
    simp only [V.R] at h ⊢
    obtain ⟨g, hg, h⟩ := h
    exact ⟨g, hM _ _ hg, h⟩
  | .nils, _, h => by simpa [V.R] using h
  | .sl _ _ _ _, _, h => by
    simp only [V.R] at h ⊢
    obtain ⟨g, cap, e, N, i, h1, h2, h3, h4, h5, h6, h7⟩ := h
    exact ⟨g, cap, e, N, i, hM _ _ h1, h2, h3, h4, h5, hE _ _ h6, h7⟩
  | .emp _, _, h => by simpa [V.R] using h
  | .agg cs, _, h => by
    simp only [V.R] at h ⊢
    obtain ⟨vs, h1, h2⟩ := h
    exact ⟨vs, h1, V.RL.keep hE hM cs _ h2⟩
  | .tup cs, _, h => by
    simp only [V.R] at h ⊢
    obtain ⟨vs, h1, h2⟩ := h
    exact ⟨vs, h1, V.RL.keep hE hM cs _ h2⟩
  | .fn _ cs, _, h => by
    simp only [V.R] at h ⊢
    obtain ⟨vs, h1, h2⟩ := h
    exact ⟨vs, h1, V.RL.keep hE hM cs _ h2⟩
  | .nilf, _, h => by simpa [V.R] using h
  | .lit _, _, h => by simpa [V.R] using h
  | .junk, _, _ => by simp [V.R]
theorem V.RL.keep (hE : ∀ k s, w.shape? k = some s → w'.shape? k = some s) (hM : MuLe μ μ') : ∀ (cs : List V) (vs : List Value), V.RL P μ w cs vs → V.RL P μ' w' cs vs
  | [], _, h => by simpa [V.RL] using h
  | c :: cs, _, h => by
    simp only [V.RL] at h ⊢
    obtain ⟨u, us, h1, h2, h3⟩ := h
    exact ⟨u, us, h1, V.R.keep hE hM c u h2, V.RL.keep hE hM cs us h3⟩
end

theorem V.RL.length : ∀ {cs : List V} {vs : List Value}, V.RL P μ w cs vs → vs.length = cs.length
  | [], _, h => by simp only [V.RL] at h; simp [h]
  | _ :: cs, _, h => by
    simp only [V.RL] at h
    obtain ⟨u, us, rfl, _, h⟩ := h
    simp [V.RL.length h]
theorem V.RL.get : ∀ {cs : List V} {vs : List Value}, V.RL P μ w cs vs → ∀ {j : Nat} {c : V}, cs[j]? = some c → ∃ u, vs[j]? = some u ∧ V.R P μ w c u
  | [], _, _, _, _, hj => by simp at hj
  | _ :: cs, _, h, j, c, hj => by
    simp only [V.RL] at h
    obtain ⟨u, us, rfl, h1, h⟩ := h
    cases j with
    | zero => simp at hj; subst hj; exact ⟨u, by simp, h1⟩
    | succ j => simpa using V.RL.get h (j := j) (by simpa using hj)
theorem V.RL.of : ∀ {cs : List V} {vs : List Value}, vs.length = cs.length → (∀ (j : Nat) (c : V) (u : Value), cs[j]? = some c → vs[j]? = some u → V.R P μ w c u) → V.RL P μ w cs vs
  | [], vs, hl, _ => by simp only [V.RL]; exact List.eq_nil_of_length_eq_zero (by simpa using hl)
  | c :: cs, [], hl, _ => by simp at hl
  | c :: cs, v :: vs, hl, h => by
    simp only [V.RL]
    exact ⟨v, vs, rfl, h 0 c v (by simp) (by simp), V.RL.of (by simpa using hl) fun j c u hc hu => h (j + 1) c u (by simpa using hc) (by simpa using hu)⟩
theorem V.RL.append {a b : List V} {va vb : List Value} (h : V.RL P μ w a va) (k : V.RL P μ w b vb) : V.RL P μ w (a ++ b) (va ++ vb) := by
  refine .of (by simp [h.length, k.length]) fun j c u hc hu => ?_
  have hl := h.length
  rw [List.getElem?_append] at hc hu
  by_cases hj : j < a.length
  · rw [if_pos hj] at hc
    rw [if_pos (by omega)] at hu
    obtain ⟨u', hu', hr⟩ := h.get hc
    rw [hu] at hu'; cases hu'; exact hr
  · rw [if_neg hj] at hc
    rw [if_neg (by omega), hl] at hu
    obtain ⟨u', hu', hr⟩ := k.get hc
    rw [hu] at hu'; cases hu'; exact hr
theorem V.RL.drop {a : List V} {va : List Value} (h : V.RL P μ w a va) (n : Nat) : V.RL P μ w (a.drop n) (va.drop n) := by
  refine .of (by simp [h.length]) fun j c u hc hu => ?_
  rw [List.getElem?_drop] at hc hu
  obtain ⟨u', hu', hr⟩ := h.get hc
  rw [hu] at hu'; cases hu'; exact hr
theorem V.RL.take {a : List V} {va : List Value} (h : V.RL P μ w a va) (n : Nat) : V.RL P μ w (a.take n) (va.take n) := by
  refine .of (by simp [h.length]) fun j c u hc hu => ?_
  rw [List.getElem?_take] at hc hu
  split at hc
  · rename_i hj
    rw [if_pos hj] at hu
    obtain ⟨u', hu', hr⟩ := h.get hc
    rw [hu] at hu'; cases hu'; exact hr
  · cases hc
theorem V.RL.set {a : List V} {va : List Value} (h : V.RL P μ w a va) (n : Nat) {c : V} {u : Value} (hc : V.R P μ w c u) : V.RL P μ w (a.set n c) (va.set n u) := by
  refine .of (by simp [h.length]) fun j d v hd hv => ?_
  rw [List.getElem?_set] at hd hv
  by_cases hj : n = j
  · subst hj
    rw [if_pos rfl] at hd hv
    split at hd
    · split at hv
      · cases hd; cases hv; exact hc
      · cases hv
    · cases hd
  · rw [if_neg hj] at hd hv
    obtain ⟨u', hu', hr⟩ := h.get hd
    rw [hv] at hu'; cases hu'; exact hr

/-- Block b lies in the machine's memory. -/
def Holds (P : Program) (μ : Mu) (w : World) (b : Nat) (blk : Blk) : Prop :=
  ∃ g cs fr, μ b = some g ∧ w.heap[g]? = some (.cells cs blk.2 fr) ∧ (fr.2 ≤ fr.1 ∨ cs.size ≤ fr.1) ∧ blk.1.length ≤ cs.size ∧ V.RL P μ w blk.1 (cs.toList.take blk.1.length)

theorem Holds.keep {X : Nat → Prop} {b : Nat} {blk : Blk} (h : Holds P μ w b blk) (hE : Evo w w' X) (hM : MuLe μ μ') (hX : ∀ g, μ b = some g → ¬ X g) : Holds P μ' w' b blk := by
  obtain ⟨g, cs, fr, h1, h2, h3, h4, h5⟩ := h
  exact ⟨g, cs, fr, hM _ _ h1, (hE.block g (Array.getElem?_eq_some_iff.1 h2).1 (hX g h1)).trans h2, h3, h4, V.RL.keep hE.shape hM _ _ h5⟩

theorem Holds.lt {b g : Nat} {blk : Blk} (h : Holds P μ w b blk) (hg : μ b = some g) : g < w.heap.size := by
  obtain ⟨g', cs, fr, h1, h2, _⟩ := h
  rw [hg] at h1; cases h1
  exact (Array.getElem?_eq_some_iff.1 h2).1

theorem Holds.cell {b : Nat} {blk : Blk} (h : Holds P μ w b blk) {g : Nat} (hg : μ b = some g) {j : Nat} {c : V} (hj : blk.1[j]? = some c) : ∃ u, w.cell? ⟨g, j, none⟩ = some u ∧ V.R P μ w c u := by
  obtain ⟨g', cs, fr, h1, h2, _, h4, h5⟩ := h
  rw [hg] at h1; cases h1
  obtain ⟨u, hu, hr⟩ := h5.get hj
  rw [List.getElem?_take] at hu
  split at hu
  · exact ⟨u, by simpa [World.cell?, h2] using hu, hr⟩
  · cases hu

/-- A value that fits one cell, of which all is known. -/
def V.one : V → Bool
  | .agg _ | .tup _ | .junk => false
  | .lit v => v.oneCell'
  | _ => true

theorem V.one_cell {c : V} {v : Value} (h : V.R P μ w c v) (h1 : c.one = true) : v.oneCell' = true ∧ v.cells = #[v] := by
  cases c <;> simp only [V.one, Bool.false_eq_true] at h1 <;> simp only [V.R] at h
  all_goals (first
    | (subst h; exact ⟨rfl, rfl⟩)
    | (obtain ⟨g, _, rfl⟩ := h; exact ⟨rfl, rfl⟩)
    | (obtain ⟨g, cap, e, N, i, _, rfl, _⟩ := h; exact ⟨rfl, rfl⟩)
    | (obtain ⟨a, cap, rfl, _⟩ := h; exact ⟨rfl, rfl⟩)
    | (obtain ⟨vs, rfl, _⟩ := h; exact ⟨rfl, rfl⟩)
    | (subst h; refine ⟨h1, ?_⟩; cases v <;> simp_all [Value.oneCell', Value.cells]))

theorem R_ofScalar (v : Value) : V.R P μ w (ofScalar v) v := by
  unfold ofScalar
  split <;> simp [V.R]
theorem RL_ofScalar : ∀ (l : List Value), V.RL P μ w (l.map ofScalar) l
  | [] => by simp [V.RL]
  | v :: l => by simp only [List.map_cons, V.RL]; exact ⟨v, l, rfl, R_ofScalar v, RL_ofScalar l⟩
theorem R_ofValue (v : Value) : V.R P μ w (ofValue v) v := by
  unfold ofValue
  split
  · simp only [V.R]; exact ⟨_, rfl, RL_ofScalar _⟩
  · exact R_ofScalar v

end
end Go.Proofs.Ytalhlpfjjbbfnaa

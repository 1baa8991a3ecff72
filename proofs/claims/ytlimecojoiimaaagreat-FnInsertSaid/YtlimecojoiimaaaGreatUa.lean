/-
  A small evaluator over values whose addresses are names: values, how they stand for the machine's values, what a step may change.
-/
import Derived.Test.YtlimecojoiimaaaGreatBase
namespace Go.Proofs.YtlimecojoiimaaaGreat
open Go.RowKit

/-- Values; an address is the number of an abstract block. -/
inductive V where
  | int (k : IntKind) (n : Int)
  | bool (b : Bool)
  | str (s : List UInt8)
  | nilp
  | ptr (b off : Nat)
  | sl (b off n : Nat) (full : Bool)
  | dsl (n : Nat) (full : Bool) (cs : List V)
  | dptr (cs : List V)
  | sld (cs : List V)
  | agg (cs : List V)
  | tup (vs : List V)
  | fn (f : FuncId) (cap : List V)
  | nilf
  | lit (v : Value)
  | junk

/-- An abstract block: its cells and their element type; none: nothing is known of it. -/
abbrev Blk := List V × TypeId
abbrev Hp := List (Option Blk)

def ofScalar : Value → V
  | .int k n => .int k n
  | .bool b => .bool b
  | .string s => .str s.data.toList
  | .pointer none => .nilp
  | .slice none 0 0 => .dsl 0 true []
  | .nilFunc => .nilf
  | .nilIface => .lit .nilIface
  | .map none => .lit (.map none)
  | _ => .junk
def ofValue : Value → V
  | .agg cs => .agg (cs.toList.map ofScalar)
  | v => ofScalar v

mutual
def V.refs : V → List Nat
  | .ptr b _ => [b]
  | .sl b _ _ _ => [b]
  | .agg cs => V.refsL cs
  | .tup cs => V.refsL cs
  | .fn _ cs => V.refsL cs
  | _ => []
def V.refsL : List V → List Nat
  | [] => []
  | c :: cs => V.refs c ++ V.refsL cs
end

abbrev Mu := Nat → Option Nat

/-- No block bears a name. -/
def noMu : Mu := fun _ => none

mutual
def V.R (P : Program) (I : Nat → Prop) : Mu → World → V → Value → Prop
  | _, _, .int k n, v => v = .int k n
  | _, _, .bool b, v => v = .bool b
  | _, _, .str s, v => v = .string ⟨s.toArray⟩
  | _, _, .nilp, v => v = .pointer none
  | μ, _, .ptr b off, v => ∃ g, μ b = some g ∧ v = .pointer (some ⟨g, off, none⟩)
  | μ, w, .sl b off n full, v => ∃ g cap e N i, μ b = some g ∧ v = .slice (some ⟨g, off, none⟩) n cap ∧ n ≤ cap ∧ cap ≤ maxLen ∧ (full = true → cap = n) ∧ w.shape? g = some (e, N) ∧ P.info? e = some i ∧ off + cap * i.size ≤ N
  | _, w, .dsl n full cs, v => ∃ a cap, v = .slice a n cap ∧ n ≤ cap ∧ (full = true → cap = n) ∧ (a = none ∧ cap = 0 ∨ ∃ g off, a = some ⟨g, off, none⟩) ∧ (cs = [] ∨ ∃ g off, a = some ⟨g, off, none⟩ ∧ I g ∧ ∃ cells e fr, w.heap[g]? = some (.cells cells e fr) ∧ V.RL P I noMu w cs ((cells.toList.drop off).take cs.length))
  | _, w, .dptr cs, v => ∃ g off, v = .pointer (some ⟨g, off, none⟩) ∧ (cs = [] ∨ I g ∧ ∃ cells e fr, w.heap[g]? = some (.cells cells e fr) ∧ V.RL P I noMu w cs ((cells.toList.drop off).take cs.length))
  | _, _, .sld _, _ => False
  | μ, w, .agg cs, v => ∃ vs, v = .agg vs ∧ V.RL P I μ w cs vs.toList
  | μ, w, .tup cs, v => ∃ vs, v = .tuple vs ∧ V.RL P I μ w cs vs.toList
  | μ, w, .fn f cap, v => ∃ vs, v = .func (.func f) #[] vs ∧ V.RL P I μ w cap vs.toList
  | _, _, .nilf, v => v = .nilFunc
  | _, _, .lit u, v => v = u
  | _, _, .junk, _ => True
def V.RL (P : Program) (I : Nat → Prop) : Mu → World → List V → List Value → Prop
  | _, _, [], vs => vs = []
  | μ, w, c :: cs, vs => ∃ u us, vs = u :: us ∧ V.R P I μ w c u ∧ V.RL P I μ w cs us
end

section
variable {P : Program} {I I' : Nat → Prop} {μ μ' : Mu} {w w' : World}

/-- The later world keeps what is not in X. -/
structure Evo (I : Nat → Prop) (w w' : World) (X : Nat → Prop) : Prop where
  os : w'.os = w.os
  tape : w'.tape = w.tape
  output : w'.output = w.output
  size : w.heap.size ≤ w'.heap.size
  block : ∀ k, k < w.heap.size → ¬ X k → w'.heap[k]? = w.heap[k]?
  shape : ∀ k s, w.shape? k = some s → w'.shape? k = some s
  imm : ∀ k, I k → k < w.heap.size → w'.heap[k]? = w.heap[k]?

def Sub (I I' : Nat → Prop) : Prop := ∀ k, I k → I' k
def MuLe (μ μ' : Mu) : Prop := ∀ b g, μ b = some g → μ' b = some g

theorem Sub.refl (I : Nat → Prop) : Sub I I := fun _ h => h
theorem Evo.refl (w : World) (X : Nat → Prop) : Evo I w w X := ⟨rfl, rfl, rfl, Nat.le_refl _, fun _ _ _ => rfl, fun _ _ h => h, fun _ _ _ => rfl⟩
theorem Evo.trans {a b c : World} {X Y : Nat → Prop} (h : Evo I a b X) (k : Evo I' b c Y) (hI : Sub I I') (hY : ∀ j, j < a.heap.size → Y j → X j) : Evo I a c X :=
  ⟨k.os.trans h.os, k.tape.trans h.tape, k.output.trans h.output, Nat.le_trans h.size k.size,
   fun j hj hn => (k.block j (Nat.lt_of_lt_of_le hj h.size) (fun hy => hn (hY j hj hy))).trans (h.block j hj hn), fun j s hs => k.shape j s (h.shape j s hs),
   fun j hi hj => (k.imm j (hI j hi) (Nat.lt_of_lt_of_le hj h.size)).trans (h.imm j hi hj)⟩
theorem Evo.mono {a b : World} {X Y : Nat → Prop} (h : Evo I a b X) (hXY : ∀ j, X j → Y j) : Evo I a b Y :=
  ⟨h.os, h.tape, h.output, h.size, fun j hj hn => h.block j hj (fun hx => hn (hXY j hx)), h.shape, h.imm⟩
theorem Evo.less {a b : World} {X : Nat → Prop} (h : Evo I' a b X) (hI : Sub I I') : Evo I a b X :=
  ⟨h.os, h.tape, h.output, h.size, h.block, h.shape, fun k hk => h.imm k (hI k hk)⟩
theorem MuLe.refl (μ : Mu) : MuLe μ μ := fun _ _ h => h
theorem MuLe.trans {a b c : Mu} (h : MuLe a b) (k : MuLe b c) : MuLe a c := fun x g e => k x g (h x g e)

theorem shape_of {g : Nat} {cs : Array Value} {e : TypeId} {fr : Nat × Nat} (h : w.heap[g]? = some (.cells cs e fr)) : w.shape? g = some (e, cs.size) := by
  simp [World.shape?, h]
theorem shape_lt {g : Nat} {s : TypeId × Nat} (h : w.shape? g = some s) : g < w.heap.size := by
  unfold World.shape? at h
  split at h
  · rename_i hh; exact (Array.getElem?_eq_some_iff.1 hh).1
  · cases h
theorem shape_alloc (w : World) (o : Obj) (k : Nat) (s : TypeId × Nat) (h : w.shape? k = some s) : (w.alloc o).shape? k = some s := by
  have := shape_lt h
  unfold World.shape? at *
  rw [Below.heap_alloc w o k this]
  exact h
theorem Evo.alloc (w : World) (o : Obj) (X : Nat → Prop) : Evo I w (w.alloc o) X :=
  ⟨rfl, rfl, rfl, by simp, fun k hk _ => Below.heap_alloc w o k hk, fun k s h => shape_alloc w o k s h, fun k _ hk => Below.heap_alloc w o k hk⟩
theorem Evo.drew (w : World) (X : Nat → Prop) : Evo I w w.drew X := ⟨rfl, rfl, rfl, Nat.le_refl _, fun _ _ _ => rfl, fun _ _ h => h, fun _ _ _ => rfl⟩
theorem Evo.setRow (w : World) (g : Nat) (old cs : Array Value) (e : TypeId) (fr : Nat × Nat) (hg : w.heap[g]? = some (.cells old e fr)) (hs : cs.size = old.size) (hI : ¬ I g) : Evo I w (w.setRow g cs) (fun k => k = g) := by
  refine ⟨rfl, rfl, rfl, by simp, fun k hk hn => setRow_other w g k cs hn, fun k s h => ?_, fun k hk _ => setRow_other w g k cs (by rintro rfl; exact hI hk)⟩
  by_cases hkg : k = g
  · subst hkg
    rw [shape_of (setRow_heap w k old cs e fr hg), hs, ← shape_of hg, h]
  · unfold World.shape? at *
    rw [setRow_other w g k cs hkg]
    exact h

mutual
theorem V.R.keep {X : Nat → Prop} (hE : Evo I w w' X) (hI : Sub I I') : ∀ {μ μ' : Mu} (_ : MuLe μ μ') (c : V) (v : Value), V.R P I μ w c v → V.R P I' μ' w' c v
  | _, _, hM, .int _ _, _, h => by simpa [V.R] using h
  | _, _, hM, .bool _, _, h => by simpa [V.R] using h
  | _, _, hM, .str _, _, h => by simpa [V.R] using h
  | _, _, hM, .nilp, _, h => by simpa [V.R] using h
  | _, _, hM, .ptr _ _, _, h => by
    simp only [V.R] at h ⊢
    obtain ⟨g, hg, h⟩ := h
    exact ⟨g, hM _ _ hg, h⟩
  | _, _, hM, .sl _ _ _ _, _, h => by
    simp only [V.R] at h ⊢
    obtain ⟨g, cap, e, N, i, h1, h2, h3, h4, h5, h6, h7⟩ := h
    exact ⟨g, cap, e, N, i, hM _ _ h1, h2, h3, h4, h5, hE.shape _ _ h6, h7⟩
  | _, _, hM, .dsl _ _ cs, _, h => by
    simp only [V.R] at h ⊢
    obtain ⟨a, cap, h1, h2, h3, h3', h4⟩ := h
    refine ⟨a, cap, h1, h2, h3, h3', ?_⟩
    rcases h4 with h4 | ⟨g, off, h4', h4, cells, e, fr, h5, h6⟩
    · exact .inl h4
    · exact .inr ⟨g, off, h4', hI _ h4, cells, e, fr, (hE.imm g h4 (Array.getElem?_eq_some_iff.1 h5).1).trans h5, V.RL.keep hE hI (MuLe.refl _) cs _ h6⟩
  | _, _, hM, .dptr cs, _, h => by
    simp only [V.R] at h ⊢
    obtain ⟨g, off, h1, h4⟩ := h
    refine ⟨g, off, h1, ?_⟩
    rcases h4 with h4 | ⟨h4, cells, e, fr, h5, h6⟩
    · exact .inl h4
    · exact .inr ⟨hI _ h4, cells, e, fr, (hE.imm g h4 (Array.getElem?_eq_some_iff.1 h5).1).trans h5, V.RL.keep hE hI (MuLe.refl _) cs _ h6⟩
  | _, _, hM, .sld _, _, h => by simp [V.R] at h
  | _, _, hM, .agg cs, _, h => by
    simp only [V.R] at h ⊢
    obtain ⟨vs, h1, h2⟩ := h
    exact ⟨vs, h1, V.RL.keep hE hI hM cs _ h2⟩
  | _, _, hM, .tup cs, _, h => by
    simp only [V.R] at h ⊢
    obtain ⟨vs, h1, h2⟩ := h
    exact ⟨vs, h1, V.RL.keep hE hI hM cs _ h2⟩
  | _, _, hM, .fn _ cs, _, h => by
    simp only [V.R] at h ⊢
    obtain ⟨vs, h1, h2⟩ := h
    exact ⟨vs, h1, V.RL.keep hE hI hM cs _ h2⟩
  | _, _, hM, .nilf, _, h => by simpa [V.R] using h
  | _, _, hM, .lit _, _, h => by simpa [V.R] using h
  | _, _, hM, .junk, _, _ => by simp [V.R]
theorem V.RL.keep {X : Nat → Prop} (hE : Evo I w w' X) (hI : Sub I I') : ∀ {μ μ' : Mu} (_ : MuLe μ μ') (cs : List V) (vs : List Value), V.RL P I μ w cs vs → V.RL P I' μ' w' cs vs
  | _, _, hM, [], _, h => by simpa [V.RL] using h
  | _, _, hM, c :: cs, _, h => by
    simp only [V.RL] at h ⊢
    obtain ⟨u, us, h1, h2, h3⟩ := h
    exact ⟨u, us, h1, V.R.keep hE hI hM c u h2, V.RL.keep hE hI hM cs us h3⟩
end

theorem noMu_le (μ : Mu) : MuLe noMu μ := fun _ _ h => (by cases h)
theorem R_up {c : V} {v : Value} (h : V.R P I noMu w c v) : V.R P I μ w c v := h.keep (.refl w (fun _ => False)) (.refl I) (noMu_le μ)
theorem RL_up {cs : List V} {vs : List Value} (h : V.RL P I noMu w cs vs) : V.RL P I μ w cs vs := h.keep (.refl w (fun _ => False)) (.refl I) (noMu_le μ)

theorem V.RL.length : ∀ {cs : List V} {vs : List Value}, V.RL P I μ w cs vs → vs.length = cs.length
  | [], _, h => by simp only [V.RL] at h; simp [h]
  | _ :: cs, _, h => by
    simp only [V.RL] at h
    obtain ⟨u, us, rfl, _, h⟩ := h
    simp [V.RL.length h]
theorem V.RL.get : ∀ {cs : List V} {vs : List Value}, V.RL P I μ w cs vs → ∀ {j : Nat} {c : V}, cs[j]? = some c → ∃ u, vs[j]? = some u ∧ V.R P I μ w c u
  | [], _, _, _, _, hj => by simp at hj
  | _ :: cs, _, h, j, c, hj => by
    simp only [V.RL] at h
    obtain ⟨u, us, rfl, h1, h⟩ := h
    cases j with
    | zero => simp at hj; subst hj; exact ⟨u, by simp, h1⟩
    | succ j => simpa using V.RL.get h (j := j) (by simpa using hj)
theorem V.RL.of : ∀ {cs : List V} {vs : List Value}, vs.length = cs.length → (∀ (j : Nat) (c : V) (u : Value), cs[j]? = some c → vs[j]? = some u → V.R P I μ w c u) → V.RL P I μ w cs vs
  | [], vs, hl, _ => by simp only [V.RL]; exact List.eq_nil_of_length_eq_zero (by simpa using hl)
  | c :: cs, [], hl, _ => by simp at hl
  | c :: cs, v :: vs, hl, h => by
    simp only [V.RL]
    exact ⟨v, vs, rfl, h 0 c v (by simp) (by simp), V.RL.of (by simpa using hl) fun j c u hc hu => h (j + 1) c u (by simpa using hc) (by simpa using hu)⟩
theorem V.RL.append {a b : List V} {va vb : List Value} (h : V.RL P I μ w a va) (k : V.RL P I μ w b vb) : V.RL P I μ w (a ++ b) (va ++ vb) := by
  refine .of (by simp [h.length, k.length]) fun j c u hc hu => ?_
  have hl := h.length
  rw [List.getElem?_append] at hc hu
  by_cases hj : j < a.length
  · rw [if_pos hj] at hc
    rw [if_pos (by omega)] at hu
    obtain ⟨u', hu', hr⟩ := h.get hc
    rw [hu] at hu'; cases hu'; exact hr
  · rw [if_neg hj] at hc
    rw [if_neg (by omega), hl] at hu
    obtain ⟨u', hu', hr⟩ := k.get hc
    rw [hu] at hu'; cases hu'; exact hr
theorem V.RL.drop {a : List V} {va : List Value} (h : V.RL P I μ w a va) (n : Nat) : V.RL P I μ w (a.drop n) (va.drop n) := by
  refine .of (by simp [h.length]) fun j c u hc hu => ?_
  rw [List.getElem?_drop] at hc hu
  obtain ⟨u', hu', hr⟩ := h.get hc
  rw [hu] at hu'; cases hu'; exact hr
theorem V.RL.take {a : List V} {va : List Value} (h : V.RL P I μ w a va) (n : Nat) : V.RL P I μ w (a.take n) (va.take n) := by
  refine .of (by simp [h.length]) fun j c u hc hu => ?_
  rw [List.getElem?_take] at hc hu
  split at hc
  · rename_i hj
    rw [if_pos hj] at hu
    obtain ⟨u', hu', hr⟩ := h.get hc
    rw [hu] at hu'; cases hu'; exact hr
  · cases hc
theorem V.RL.set {a : List V} {va : List Value} (h : V.RL P I μ w a va) (n : Nat) {c : V} {u : Value} (hc : V.R P I μ w c u) : V.RL P I μ w (a.set n c) (va.set n u) := by
  refine .of (by simp [h.length]) fun j d v hd hv => ?_
  rw [List.getElem?_set] at hd hv
  by_cases hj : n = j
  · subst hj
    rw [if_pos rfl] at hd hv
    split at hd
    · split at hv
      · cases hd; cases hv; exact hc
      · cases hv
    · cases hd
  · rw [if_neg hj] at hd hv
    obtain ⟨u', hu', hr⟩ := h.get hd
    rw [hv] at hu'; cases hu'; exact hr

/-- The cells of a block; pieces of them may be sealed: known to hold no name. -/
def flat : List V → List V
  | [] => []
  | x :: t => match x with
    | .sld c => match t with
      | [] => c
      | _ :: _ => c ++ flat t
    | x => x :: flat t
theorem flat_seal {c : List V} : ∀ {t : List V}, flat (.sld c :: t) = c ++ flat t
  | [] => by simp [flat]
  | y :: u => rfl
/-- Is a piece sealed? -/
def hasSeal : List V → Bool
  | [] => false
  | x :: t => match x with
    | .sld _ => true
    | _ => hasSeal t
theorem flat_of_RL : ∀ {l : List V} {vs : List Value}, V.RL P I μ w l vs → flat l = l
  | [], _, _ => rfl
  | x :: t, _, h => by
    simp only [V.RL] at h
    obtain ⟨u, us, _, h1, h2⟩ := h
    have ih := flat_of_RL h2
    unfold flat
    split
    · simp [V.R] at h1
    · rw [ih]
theorem noSeal_of_RL : ∀ {l : List V} {vs : List Value}, V.RL P I μ w l vs → hasSeal l = false
  | [], _, _ => rfl
  | x :: t, _, h => by
    simp only [V.RL] at h
    obtain ⟨u, us, _, h1, h2⟩ := h
    have ih := noSeal_of_RL h2
    unfold hasSeal
    split
    · simp [V.R] at h1
    · exact ih
theorem flat_noSeal : ∀ {l : List V}, hasSeal l = false → flat l = l
  | [], _ => rfl
  | x :: t, h => by
    unfold hasSeal at h
    unfold flat
    split
    · simp at h
    · rename_i hx
      split at h
      · cases h
      · rw [flat_noSeal h]

/-- What pieces hold. -/
def CR (P : Program) (I : Nat → Prop) (μ : Mu) (w : World) : List V → List Value → Prop
  | [], vs => vs = []
  | x :: t, vs => match x with
    | .sld c => ∃ us vs', vs = us ++ vs' ∧ V.RL P I noMu w c us ∧ CR P I μ w t vs'
    | x => ∃ u us, vs = u :: us ∧ V.R P I μ w x u ∧ CR P I μ w t us
theorem CR.seal_iff {c t : List V} {vs : List Value} : CR P I μ w (.sld c :: t) vs ↔ ∃ us vs', vs = us ++ vs' ∧ V.RL P I noMu w c us ∧ CR P I μ w t vs' := by simp only [CR]
theorem CR.cons_iff {x : V} {t : List V} {vs : List Value} (hx : ∀ c, x ≠ .sld c) : CR P I μ w (x :: t) vs ↔ ∃ u us, vs = u :: us ∧ V.R P I μ w x u ∧ CR P I μ w t us := by
  cases x <;> first | (exact absurd rfl (hx _)) | simp only [CR]
theorem flat_cons {x : V} {t : List V} (hx : ∀ c, x ≠ .sld c) : flat (x :: t) = x :: flat t := by
  cases x <;> first | (exact absurd rfl (hx _)) | rfl
theorem seal_or (x : V) : (∃ c, x = .sld c) ∨ ∀ c, x ≠ .sld c := by
  cases x <;> first | (exact .inl ⟨_, rfl⟩) | (exact .inr fun c e => by cases e)
theorem CR.toRL : ∀ {l : List V} {vs : List Value}, CR P I μ w l vs → V.RL P I μ w (flat l) vs
  | [], _, h => by simpa [CR, flat, V.RL] using h
  | x :: t, vs, h => by
    rcases seal_or x with ⟨c, rfl⟩ | hx
    · obtain ⟨us, vs', rfl, h1, h2⟩ := CR.seal_iff.1 h
      rw [flat_seal]; exact (RL_up h1).append (CR.toRL h2)
    · obtain ⟨u, us, rfl, h1, h2⟩ := (CR.cons_iff hx).1 h
      rw [flat_cons hx]
      simp only [V.RL]
      exact ⟨u, us, rfl, h1, CR.toRL h2⟩
theorem CR.of : ∀ {l : List V} {vs : List Value}, V.RL P I μ w l vs → CR P I μ w l vs
  | [], _, h => by simpa [CR, V.RL] using h
  | x :: t, vs, h => by
    simp only [V.RL] at h
    obtain ⟨u, us, rfl, h1, h2⟩ := h
    refine (CR.cons_iff fun c e => ?_).2 ⟨u, us, rfl, h1, CR.of h2⟩
    subst e; simp [V.R] at h1
theorem CR.keep {X : Nat → Prop} (hE : Evo I w w' X) (hI : Sub I I') (hM : MuLe μ μ') : ∀ {l : List V} {vs : List Value}, CR P I μ w l vs → CR P I' μ' w' l vs
  | [], _, h => by simpa [CR] using h
  | x :: t, vs, h => by
    rcases seal_or x with ⟨c, rfl⟩ | hx
    · obtain ⟨us, vs', rfl, h1, h2⟩ := CR.seal_iff.1 h
      exact CR.seal_iff.2 ⟨us, vs', rfl, h1.keep hE hI (.refl _), CR.keep hE hI hM h2⟩
    · obtain ⟨u, us, rfl, h1, h2⟩ := (CR.cons_iff hx).1 h
      exact (CR.cons_iff hx).2 ⟨u, us, rfl, h1.keep hE hI hM, CR.keep hE hI hM h2⟩
theorem CR.append : ∀ {a b : List V} {va vb : List Value}, CR P I μ w a va → CR P I μ w b vb → CR P I μ w (a ++ b) (va ++ vb)
  | [], b, va, vb, h, k => by simp only [CR] at h; subst h; simpa using k
  | x :: t, b, va, vb, h, k => by
    rcases seal_or x with ⟨c, rfl⟩ | hx
    · obtain ⟨us, vs', rfl, h1, h2⟩ := CR.seal_iff.1 h
      rw [List.cons_append, List.append_assoc]
      exact CR.seal_iff.2 ⟨us, _, rfl, h1, CR.append h2 k⟩
    · obtain ⟨u, us, rfl, h1, h2⟩ := (CR.cons_iff hx).1 h
      rw [List.cons_append, List.cons_append]
      exact (CR.cons_iff hx).2 ⟨u, _, rfl, h1, CR.append h2 k⟩
theorem flat_append : ∀ (a b : List V), flat (a ++ b) = flat a ++ flat b
  | [], b => rfl
  | x :: t, b => by
    rcases seal_or x with ⟨c, rfl⟩ | hx
    · rw [List.cons_append, flat_seal, flat_seal, flat_append t b, List.append_assoc]
    · rw [List.cons_append, flat_cons hx, flat_cons hx, flat_append t b, List.cons_append]
/-- Names that pieces bear. -/
theorem CR.sealed {c : List V} {vs : List Value} (h : V.RL P I noMu w c vs) : CR P I μ w [.sld c] vs := CR.seal_iff.2 ⟨vs, [], by simp, h, by simp [CR]⟩

/-- What a row of cells holds. -/
def Cont (P : Program) (I : Nat → Prop) (μ : Mu) (w : World) (l : List V) (cs : Array Value) : Prop :=
  (flat l).length ≤ cs.size ∧ CR P I μ w l (cs.toList.take (flat l).length)
/-- Block b lies in the machine's memory. -/
def Holds (P : Program) (I : Nat → Prop) (μ : Mu) (w : World) (b : Nat) (blk : Blk) : Prop :=
  ∃ g cs fr, μ b = some g ∧ ¬ I g ∧ w.heap[g]? = some (.cells cs blk.2 fr) ∧ (fr.2 ≤ fr.1 ∨ cs.size ≤ fr.1) ∧ Cont P I μ w blk.1 cs
theorem Cont.of {l : List V} {cs : Array Value} (h4 : l.length ≤ cs.size) (h5 : V.RL P I μ w l (cs.toList.take l.length)) : Cont P I μ w l cs := by
  have e := flat_of_RL h5
  exact ⟨by rw [e]; exact h4, by rw [e]; exact .of h5⟩
theorem Cont.sld {c : List V} {cs : Array Value} (h4 : c.length ≤ cs.size) (h5 : V.RL P I noMu w c (cs.toList.take c.length)) : Cont P I μ w [.sld c] cs := by
  have e : flat [.sld c] = c := by simp [flat]
  exact ⟨by rw [e]; exact h4, by rw [e]; exact .sealed h5⟩
theorem Cont.keep {X : Nat → Prop} {l : List V} {cs : Array Value} (h : Cont P I μ w l cs) (hE : Evo I w w' X) (hI : Sub I I') (hM : MuLe μ μ') : Cont P I' μ' w' l cs := ⟨h.1, h.2.keep hE hI hM⟩

theorem Holds.of {b : Nat} {blk : Blk} {g : Nat} {cs : Array Value} {fr : Nat × Nat} (h1 : μ b = some g) (h0 : ¬ I g) (h2 : w.heap[g]? = some (.cells cs blk.2 fr)) (h3 : fr.2 ≤ fr.1 ∨ cs.size ≤ fr.1) (h4 : blk.1.length ≤ cs.size) (h5 : V.RL P I μ w blk.1 (cs.toList.take blk.1.length)) : Holds P I μ w b blk :=
  ⟨g, cs, fr, h1, h0, h2, h3, .of h4 h5⟩
theorem Holds.sld {b : Nat} {c : List V} {e : TypeId} {g : Nat} {cs : Array Value} {fr : Nat × Nat} (h1 : μ b = some g) (h0 : ¬ I g) (h2 : w.heap[g]? = some (.cells cs e fr)) (h3 : fr.2 ≤ fr.1 ∨ cs.size ≤ fr.1) (h4 : c.length ≤ cs.size) (h5 : V.RL P I noMu w c (cs.toList.take c.length)) : Holds P I μ w b ([.sld c], e) :=
  ⟨g, cs, fr, h1, h0, h2, h3, .sld h4 h5⟩

theorem Holds.keep {X : Nat → Prop} {b : Nat} {blk : Blk} (h : Holds P I μ w b blk) (hE : Evo I w w' X) (hI : Sub I I') (hM : MuLe μ μ') (hX : ∀ g, μ b = some g → ¬ X g) (hn : ∀ g, μ b = some g → ¬ I' g) : Holds P I' μ' w' b blk := by
  obtain ⟨g, cs, fr, h1, _, h2, h3, h4⟩ := h
  exact ⟨g, cs, fr, hM _ _ h1, hn g h1, (hE.block g (Array.getElem?_eq_some_iff.1 h2).1 (hX g h1)).trans h2, h3, h4.keep hE hI hM⟩

theorem Holds.lt {b g : Nat} {blk : Blk} (h : Holds P I μ w b blk) (hg : μ b = some g) : g < w.heap.size := by
  obtain ⟨g', cs, fr, h1, _, h2, _⟩ := h
  rw [hg] at h1; cases h1
  exact (Array.getElem?_eq_some_iff.1 h2).1
theorem Holds.nimm {b g : Nat} {blk : Blk} (h : Holds P I μ w b blk) (hg : μ b = some g) : ¬ I g := by
  obtain ⟨g', cs, fr, h1, h0, h2, _⟩ := h
  rw [hg] at h1; cases h1
  exact h0

theorem Holds.cell {b : Nat} {blk : Blk} (h : Holds P I μ w b blk) {g : Nat} (hg : μ b = some g) {j : Nat} {c : V} (hj : (flat blk.1)[j]? = some c) : ∃ u, w.cell? ⟨g, j, none⟩ = some u ∧ V.R P I μ w c u := by
  obtain ⟨g', cs, fr, h1, _, h2, _, h4, h5⟩ := h
  rw [hg] at h1; cases h1
  obtain ⟨u, hu, hr⟩ := h5.toRL.get hj
  rw [List.getElem?_take] at hu
  split at hu
  · exact ⟨u, by simpa [World.cell?, h2] using hu, hr⟩
  · cases hu

/-- A value that fits one cell, of which all is known. -/
def V.one : V → Bool
  | .agg _ | .tup _ | .junk | .sld _ => false
  | .lit v => v.oneCell'
  | _ => true

theorem V.one_cell {c : V} {v : Value} (h : V.R P I μ w c v) (h1 : c.one = true) : v.oneCell' = true ∧ v.cells = #[v] := by
  cases c <;> simp only [V.one, Bool.false_eq_true] at h1 <;> simp only [V.R] at h
  all_goals (first
    | (subst h; exact ⟨rfl, rfl⟩)
    | (obtain ⟨g, _, rfl⟩ := h; exact ⟨rfl, rfl⟩)
    | (obtain ⟨g, cap, e, N, i, _, rfl, _⟩ := h; exact ⟨rfl, rfl⟩)
    | (obtain ⟨a, cap, rfl, _⟩ := h; exact ⟨rfl, rfl⟩)
    | (obtain ⟨g, off, rfl, _⟩ := h; exact ⟨rfl, rfl⟩)
    | (obtain ⟨vs, rfl, _⟩ := h; exact ⟨rfl, rfl⟩)
    | (subst h; refine ⟨h1, ?_⟩; cases v <;> simp_all [Value.oneCell', Value.cells]))

mutual
theorem R_nomu : ∀ (v : V) (u : Value), v.refs = [] → V.R P I μ w v u → V.R P I noMu w v u
  | .int _ _, _, _, h => by simpa only [V.R] using h
  | .bool _, _, _, h => by simpa only [V.R] using h
  | .str _, _, _, h => by simpa only [V.R] using h
  | .nilp, _, _, h => by simpa only [V.R] using h
  | .ptr _ _, _, hr, _ => by simp [V.refs] at hr
  | .sl _ _ _ _, _, hr, _ => by simp [V.refs] at hr
  | .dsl _ _ _, _, _, h => by simpa only [V.R] using h
  | .dptr _, _, _, h => by simpa only [V.R] using h
  | .sld _, _, _, h => by simp [V.R] at h
  | .agg cs, _, hr, h => by
    simp only [V.refs] at hr
    simp only [V.R] at h ⊢
    obtain ⟨vs, h1, h2⟩ := h
    exact ⟨vs, h1, RL_nomu cs _ hr h2⟩
  | .tup cs, _, hr, h => by
    simp only [V.refs] at hr
    simp only [V.R] at h ⊢
    obtain ⟨vs, h1, h2⟩ := h
    exact ⟨vs, h1, RL_nomu cs _ hr h2⟩
  | .fn _ cs, _, hr, h => by
    simp only [V.refs] at hr
    simp only [V.R] at h ⊢
    obtain ⟨vs, h1, h2⟩ := h
    exact ⟨vs, h1, RL_nomu cs _ hr h2⟩
  | .nilf, _, _, h => by simpa only [V.R] using h
  | .lit _, _, _, h => by simpa only [V.R] using h
  | .junk, _, _, _ => by simp [V.R]
theorem RL_nomu : ∀ (cs : List V) (us : List Value), V.refsL cs = [] → V.RL P I μ w cs us → V.RL P I noMu w cs us
  | [], _, _, h => by simpa only [V.RL] using h
  | c :: cs, _, hr, h => by
    simp only [V.refsL, List.append_eq_nil_iff] at hr
    simp only [V.RL] at h ⊢
    obtain ⟨u, us', h1, h2, h3⟩ := h
    exact ⟨u, us', h1, R_nomu c u hr.1 h2, RL_nomu cs us' hr.2 h3⟩
end

theorem CR.nomu : ∀ {l : List V} {vs : List Value}, V.refsL l = [] → CR P I μ w l vs → V.RL P I noMu w (flat l) vs
  | [], _, _, h => by simpa [CR, flat, V.RL] using h
  | x :: t, vs, hr, h => by
    simp only [V.refsL, List.append_eq_nil_iff] at hr
    rcases seal_or x with ⟨c, rfl⟩ | hx
    · obtain ⟨us, vs', rfl, h1, h2⟩ := CR.seal_iff.1 h
      rw [flat_seal]; exact h1.append (CR.nomu hr.2 h2)
    · obtain ⟨u, us, rfl, h1, h2⟩ := (CR.cons_iff hx).1 h
      rw [flat_cons hx]
      simp only [V.RL]
      exact ⟨u, us, rfl, R_nomu _ _ hr.1 h1, CR.nomu hr.2 h2⟩

theorem R_ofScalar (v : Value) : V.R P I μ w (ofScalar v) v := by
  unfold ofScalar
  split <;> simp only [V.R]
  exact ⟨none, 0, rfl, Nat.le_refl _, fun _ => rfl, .inl ⟨rfl, rfl⟩, .inl trivial⟩
theorem RL_ofScalar : ∀ (l : List Value), V.RL P I μ w (l.map ofScalar) l
  | [] => by simp [V.RL]
  | v :: l => by simp only [List.map_cons, V.RL]; exact ⟨v, l, rfl, R_ofScalar v, RL_ofScalar l⟩
theorem R_ofValue (v : Value) : V.R P I μ w (ofValue v) v := by
  unfold ofValue
  split
  · simp only [V.R]; exact ⟨_, rfl, RL_ofScalar _⟩
  · exact R_ofScalar v

end
end Go.Proofs.YtlimecojoiimaaaGreat

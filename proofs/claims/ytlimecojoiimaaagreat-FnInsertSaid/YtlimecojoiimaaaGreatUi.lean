/-
  The small evaluator: calls, regions, code, functions.
-/
import Derived.Test.YtlimecojoiimaaaGreatUhm
namespace Go.Proofs.YtlimecojoiimaaaGreat
open Go.RowKit

/-- Where a block stands in a list. -/
def pos : List Nat → Nat → Option Nat
  | [], _ => none
  | x :: t, b => if x = b then some 0 else (pos t b).map (· + 1)

mutual
def V.ren (ρ : Nat → Option Nat) : V → V
  | .ptr b off => match ρ b with
    | some b' => .ptr b' off
    | none => .junk
  | .sl b off n f => match ρ b with
    | some b' => .sl b' off n f
    | none => .junk
  | .agg cs => .agg (V.renL ρ cs)
  | .tup cs => .tup (V.renL ρ cs)
  | .fn f cs => .fn f (V.renL ρ cs)
  | .int k n => .int k n
  | .bool b => .bool b
  | .str s => .str s
  | .nilp => .nilp
  | .dsl n f cs => .dsl n f cs
  | .dptr cs => .dptr cs
  | .sld cs => .sld cs
  | .nilf => .nilf
  | .lit v => .lit v
  | .junk => .junk
def V.renL (ρ : Nat → Option Nat) : List V → List V
  | [] => []
  | c :: cs => V.ren ρ c :: V.renL ρ cs
end
def renB (ρ : Nat → Option Nat) (blk : Option Blk) : Option Blk := blk.map fun x => (V.renL ρ x.1, x.2)

/-- The blocks that can be reached. -/
def reach (hp : Hp) : Nat → List Nat → List Nat → List Nat
  | 0, _, seen => seen
  | _ + 1, [], seen => seen
  | n + 1, b :: t, seen =>
    if seen.contains b then reach hp n t seen else
    match hp[b]? with
    | some (some blk) => reach hp n (t ++ V.refsL blk.1) (seen ++ [b])
    | _ => reach hp n t seen

structure Ret where
  v : V
  hp : Hp
  wr : List Nat

abbrev CallF := FuncId → List V → Hp → Option Ret

def backTo (ids : List Nat) (top : Nat) (j : Nat) : Option Nat := if j < ids.length then ids[j]? else some (top + (j - ids.length))

def evCall (callF : CallF) (hp : Hp) (f : FuncId) (vs : List V) : Option Out :=
  let ids := reach hp 100000 (V.refsL vs) []
  match callF f (V.renL (pos ids) vs) (ids.map fun b => renB (pos ids) (hp.getD b none)) with
  | some r =>
    let back := backTo ids hp.length
    let wr := r.wr.filterMap fun j => ids[j]?
    some ⟨V.ren back r.v, (hp.zipIdx.map fun x => if wr.contains x.2 then renB back (((pos ids x.2).bind fun j => r.hp[j]?).getD none) else x.1) ++ (r.hp.drop ids.length).map (renB back), ids, wr⟩
  | none => none

def evOp (P : Program) (callF : CallF) (e : Operand → V) (hp : Hp) (o : Op) : Option Out :=
  match o with
  | .call { callee := .value f, args := args, argTypes := ts } =>
    match e f with
    | .fn g cap => evCall callF hp g (args.toList.map e ++ cap)
    | _ => none
  | o => match evPlain P e hp o with
    | some out => some out
    | none => evMore P e hp o

/-- The temporaries: a tree by number. -/
inductive Tr where
  | leaf
  | node (v : V) (l r : Tr)
def Tr.get : Tr → Nat → V
  | .leaf, _ => .junk
  | .node v l r, i => match Nat.beq i 0 with
    | true => v
    | false => match Nat.beq (i % 2) 1 with
      | true => l.get (i / 2)
      | false => r.get (i / 2 - 1)
def Tr.set : Tr → Nat → V → Tr
  | .leaf, _, _ => .leaf
  | .node v l r, i, x => match Nat.beq i 0 with
    | true => .node x l r
    | false => match Nat.beq (i % 2) 1 with
      | true => .node v (l.set (i / 2) x) r
      | false => .node v l (r.set (i / 2 - 1) x)
/-- 'set', reckoned at once. -/
def Tr.setK {β : Type _} : Tr → Nat → V → (Tr → β) → β
  | .leaf, _, _, k => k .leaf
  | .node v l r, i, x, k => match Nat.beq i 0 with
    | true => k (.node x l r)
    | false => match Nat.beq (i % 2) 1 with
      | true => l.setK (i / 2) x fun t => k (.node v t r)
      | false => r.setK (i / 2 - 1) x fun t => k (.node v l t)
theorem Tr.setK_eq {β : Type _} : ∀ (t : Tr) (i : Nat) (x : V) (k : Tr → β), t.setK i x k = k (t.set i x)
  | .leaf, _, _, _ => rfl
  | .node v l r, i, x, k => by
    unfold Tr.setK Tr.set
    cases Nat.beq i 0
    · cases Nat.beq (i % 2) 1
      · simp only [Tr.setK_eq r]
      · simp only [Tr.setK_eq l]
    · rfl
theorem Tr.get_ne : ∀ (t : Tr) (i j : Nat) (x : V), i ≠ j → (t.set i x).get j = t.get j
  | .leaf, _, _, _, _ => rfl
  | .node v l r, i, j, x, h => by
    have e : ∀ n m : Nat, Nat.beq n m = decide (n = m) := fun n m => by rw [Bool.eq_iff_iff]; simp
    unfold Tr.set
    by_cases hi : i = 0
    · have hj : j ≠ 0 := by omega
      simp [e, hi, Tr.get, hj]
    · by_cases hi2 : i % 2 = 1
      · simp only [e, hi, hi2, decide_true, decide_false]
        unfold Tr.get
        by_cases hj : j = 0
        · simp [hj, e]
        · by_cases hj2 : j % 2 = 1
          · simp only [e, hj, hj2, decide_true, decide_false]
            exact Tr.get_ne l _ _ x (by omega)
          · simp [e, hj, hj2]
      · simp only [e, hi, hi2, decide_false]
        unfold Tr.get
        by_cases hj : j = 0
        · simp [hj, e]
        · by_cases hj2 : j % 2 = 1
          · simp [e, hj, hj2]
          · simp only [e, hj, hj2, decide_false]
            exact Tr.get_ne r _ _ x (by omega)
theorem Tr.get_eq : ∀ (t : Tr) (i : Nat) (x : V), (t.set i x).get i = x ∨ (t.set i x).get i = .junk
  | .leaf, _, _ => .inr rfl
  | .node v l r, i, x => by
    unfold Tr.set
    cases h0 : Nat.beq i 0
    · cases h1 : Nat.beq (i % 2) 1
      · simp only [Tr.get, h0, h1]; exact Tr.get_eq r _ x
      · simp only [Tr.get, h0, h1]; exact Tr.get_eq l _ x
    · left; simp only [Tr.get, h0]
structure Tm where
  n : Nat
  t : Tr
def Tm.get (m : Tm) (i : Nat) : V := match Nat.blt i m.n with
  | true => m.t.get i
  | false => .junk
def Tm.put (m : Tm) (i : Nat) (x : V) : Tm := ⟨m.n, m.t.set i x⟩
theorem Tm.get_ne (m : Tm) {i j : Nat} (x : V) (h : i ≠ j) : (m.put i x).get j = m.get j := by
  unfold Tm.get Tm.put
  simp only [Tr.get_ne m.t i j x h]
theorem Tm.get_eq (m : Tm) (i : Nat) (x : V) : (m.put i x).get i = x ∧ i < m.n ∨ (m.put i x).get i = .junk := by
  unfold Tm.get Tm.put
  cases h : Nat.blt i m.n
  · exact .inr rfl
  · have : i < m.n := by simpa using h
    rcases Tr.get_eq m.t i x with h | h
    · exact .inl ⟨h, this⟩
    · exact .inr h
def Tr.mk0 : Nat → Tr
  | 0 => .leaf
  | k + 1 => .node .junk (Tr.mk0 k) (Tr.mk0 k)
theorem Tr.mk0_get : ∀ (k i : Nat), (Tr.mk0 k).get i = .junk
  | 0, _ => rfl
  | k + 1, i => by
    unfold Tr.mk0 Tr.get
    cases Nat.beq i 0
    · cases Nat.beq (i % 2) 1
      · exact Tr.mk0_get k _
      · exact Tr.mk0_get k _
    · rfl
def Tm.fill : List V → Nat → Tm → Tm
  | [], _, m => m
  | v :: vs, i, m => Tm.fill vs (i + 1) (m.put i v)
theorem Tm.fill_get : ∀ (vs : List V) (i : Nat) (m : Tm) (t : Nat), ((Tm.fill vs i m).get t = m.get t) ∨ ((Tm.fill vs i m).get t = .junk) ∨ (∃ k, t = i + k ∧ vs[k]? = some ((Tm.fill vs i m).get t))
  | [], _, _, _ => .inl rfl
  | v :: vs, i, m, t => by
    unfold Tm.fill
    rcases Tm.fill_get vs (i + 1) (m.put i v) t with h | h | ⟨k, hk, h⟩
    · by_cases e : i = t
      · subst e
        rcases m.get_eq i v with h2 | h2
        · right; right; exact ⟨0, rfl, by rw [h, h2.1]; rfl⟩
        · right; left; rw [h, h2]
      · left; rw [h, m.get_ne v e]
    · exact .inr (.inl h)
    · exact .inr (.inr ⟨k + 1, by omega, by simpa using h⟩)
theorem Tm.fill_n : ∀ (vs : List V) (i : Nat) (m : Tm), (Tm.fill vs i m).n = m.n
  | [], _, _ => rfl
  | _ :: vs, i, m => by unfold Tm.fill; rw [Tm.fill_n vs]; rfl
def Tm.start (n : Nat) (vs : List V) : Tm := Tm.fill vs 0 ⟨n, Tr.mk0 11⟩
theorem Tm.start_get (n : Nat) (vs : List V) (t : Nat) : (Tm.start n vs).get t = .junk ∨ vs[t]? = some ((Tm.start n vs).get t) := by
  have h0 : (⟨n, Tr.mk0 11⟩ : Tm).get t = .junk := by
    unfold Tm.get
    cases Nat.blt t n
    · rfl
    · exact Tr.mk0_get _ _
  rcases Tm.fill_get vs 0 ⟨n, Tr.mk0 11⟩ t with h | h | ⟨k, hk, h⟩
  · left; unfold Tm.start; rw [h, h0]
  · exact .inl h
  · right; rw [show t = k by omega] at h ⊢; exact h

def evalV (tm : Tm) : Operand → V
  | .tmp t => tm.get t
  | .const v => ofValue v
  | .func f => .fn f []
  | .global _ => .junk

structure St where
  tm : Tm
  hp : Hp
  wr : List Nat

/-- Is an operation wanted? none: it can't be told. -/
def wantedV (ops : Array Oper) (tm : Tm) (o : Oper) : Option Bool :=
  match o.guard with
  | none => some true
  | some (j, want) =>
    match (ops[j]?).bind (·.dst) with
    | some d => match tm.get d with
      | .bool b => some (b == want)
      | .lit (.tuple _) => some false
      | _ => none
    | none => none

def putV (tm : Tm) (d : Option Tmp) (v : V) : Tm :=
  match d with
  | some d => tm.put d v
  | none => tm
def putK {β : Type _} (tm : Tm) (d : Option Tmp) (v : V) (k : Tm → β) : β :=
  match d with
  | some d => tm.t.setK d v fun t => k ⟨tm.n, t⟩
  | none => k tm
theorem putK_eq {β : Type _} (tm : Tm) (d : Option Tmp) (v : V) (k : Tm → β) : putK tm d v k = k (putV tm d v) := by
  cases d with
  | none => rfl
  | some d =>
    show (tm.t.setK d v fun t => k ⟨tm.n, t⟩) = _
    rw [Tr.setK_eq]
    rfl

/-- The list is reckoned, then handed on. -/
def forceL {α : Type} {β : Type _} (l : List α) (k : List α → β) : β :=
  match l with
  | [] => k []
  | x :: xs => forceL xs fun ys => k (x :: ys)
theorem forceL_eq {α : Type} {β : Type _} : ∀ (l : List α) (k : List α → β), forceL l k = k l
  | [], _ => rfl
  | x :: xs, k => by unfold forceL; rw [forceL_eq xs]
def forceV {β : Type _} (v : V) (k : V → β) : β :=
  match v with
  | .int a n => k (.int a n)
  | .bool b => k (.bool b)
  | .str s => k (.str s)
  | .nilp => k .nilp
  | .ptr b o => k (.ptr b o)
  | .sl b o n f => k (.sl b o n f)
  | .dsl n f cs => k (.dsl n f cs)
  | .dptr cs => k (.dptr cs)
  | .sld cs => k (.sld cs)
  | .agg cs => k (.agg cs)
  | .tup cs => k (.tup cs)
  | .fn f cs => k (.fn f cs)
  | .nilf => k .nilf
  | .lit u => k (.lit u)
  | .junk => k .junk
theorem forceV_eq {β : Type _} (v : V) (k : V → β) : forceV v k = k v := by cases v <;> rfl
def forceW (new old : List Nat) : List Nat :=
  match new with
  | [] => old
  | x :: xs => old ++ x :: xs
theorem forceW_eq (new old : List Nat) : forceW new old = old ++ new := by cases new <;> simp [forceW]

/-- One operation of a region. -/
def evStep (P : Program) (callF : CallF) (ops : Array Oper) (s : St) (o : Oper) : Option (St × List Nat × List Nat) :=
  match wantedV ops s.tm o with
  | some true =>
    match evOp P callF (evalV s.tm) s.hp o.op with
    | some out => forceV out.v fun v => putK s.tm o.dst v fun tm => some (⟨tm, out.hp, forceW out.wr s.wr⟩, out.acc, out.wr)
    | none => none
  | some false => putK s.tm o.dst (.lit undef) fun tm => some (⟨tm, s.hp, s.wr⟩, [], [])
  | none => none

def evOps (P : Program) (callF : CallF) (ops : Array Oper) : List Oper → St → Option St
  | [], s => some s
  | o :: rest, s => match evStep P callF ops s o with
    | some (s', _) => evOps P callF ops rest s'
    | none => none

inductive Ex where
  | normal
  | exit (id : Nat)
  | ret

def iter (step : St → Option (Ex × St)) : Nat → St → Option (Ex × St)
  | 0, _ => none
  | n + 1, s => match step s with
    | some (.normal, s') => iter step n s'
    | r => r

end Go.Proofs.YtlimecojoiimaaaGreat

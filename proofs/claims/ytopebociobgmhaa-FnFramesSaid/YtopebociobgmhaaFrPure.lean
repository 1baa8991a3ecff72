/-
  Streams in plain Lean: what a byte does, in the reference's way and in the program's; the two agree.
-/
import GoSem.Core.Value
namespace Go.Proofs.Ytopebociobgmhaa.Fr

structure F where
  buf : List UInt8
  depth : Int
  quote : Bool
  skip : Bool
  closed : Bool
deriving DecidableEq

def F.zero : F := ⟨[], 0, false, false, false⟩
def F.shut : F := ⟨[], 0, false, false, true⟩

def blank (b : Int) : Bool := b == 32 || b == 9 || b == 10 || b == 13

/-- the reference: a byte more -/
def sByte (f : F) (b : UInt8) : F × Bool :=
  if f.depth == 0 && blank b.toNat then (f, false)
  else if f.depth == 0 && (b.toNat : Int) != 123 && (b.toNat : Int) != 91 then (F.shut, false)
  else
    let f1 : F := { f with buf := f.buf ++ [b] }
    if 3000 < f1.buf.length then (F.shut, false)
    else if f1.skip then ({ f1 with skip := false }, false)
    else if f1.quote && (b.toNat : Int) == 92 then ({ f1 with skip := true }, false)
    else if (b.toNat : Int) == 34 then ({ f1 with quote := !f1.quote }, false)
    else if f1.quote then (f1, false)
    else if (b.toNat : Int) == 123 || (b.toNat : Int) == 91 then
      if 12 < f1.depth + 1 then (F.shut, false) else ({ f1 with depth := f1.depth + 1 }, false)
    else if (b.toNat : Int) == 125 || (b.toNat : Int) == 93 then ({ f1 with depth := f1.depth - 1 }, f1.depth - 1 == 0)
    else (f1, false)

structure SS where
  f : F
  out : List (List UInt8)

def sStep (s : SS) (b : UInt8) : SS :=
  if s.f.closed then s
  else if (sByte s.f b).2 then ⟨F.zero, s.out ++ [(sByte s.f b).1.buf]⟩ else ⟨(sByte s.f b).1, s.out⟩

def sFeed (f : F) (t : List UInt8) : SS := t.foldl sStep ⟨f, []⟩

/-- the program: a byte within a text; 'buf' stands aside -/
structure G where
  depth : Int
  quote : Bool
  skip : Bool
  closed : Bool
deriving DecidableEq

def inText (f : G) (b : Int) (long : Bool) : G × Bool :=
  let g : G :=
    if long then { f with closed := true }
    else if f.skip then { f with skip := false }
    else if f.quote then { f with skip := b == 92, quote := b != 34 }
    else if b == 34 then { f with quote := true }
    else if b == 123 || b == 91 then { f with depth := f.depth + 1, closed := decide (12 < f.depth + 1) }
    else if b == 125 || b == 93 then { f with depth := f.depth - 1 }
    else f
  (g, !g.closed && g.depth == 0)

structure IS where
  g : G
  buf : List UInt8
  out : List (List UInt8)

def iStep (s : IS) (b : UInt8) : IS :=
  if s.g.closed then s
  else if s.g.depth == 0 && blank b.toNat then s
  else if s.g.depth == 0 && (b.toNat : Int) != 123 && (b.toNat : Int) != 91 then { s with g := { s.g with closed := true } }
  else if (inText s.g b.toNat (decide (3000 < (s.buf.length : Int) + 1))).2 then ⟨(inText s.g b.toNat (decide (3000 < (s.buf.length : Int) + 1))).1, [], s.out ++ [s.buf ++ [b]]⟩
  else ⟨(inText s.g b.toNat (decide (3000 < (s.buf.length : Int) + 1))).1, s.buf ++ [b], s.out⟩

def iFeed (f : F) (t : List UInt8) : IS := t.foldl iStep ⟨⟨f.depth, f.quote, f.skip, f.closed⟩, f.buf, []⟩

def IS.done (s : IS) : F := if s.g.closed then F.shut else ⟨s.buf, s.g.depth, s.g.quote, s.g.skip, false⟩

/-- what holds of every framer that is not closed -/
def IS.ok (s : IS) : Prop :=
  s.g.closed = true ∨ (0 ≤ s.g.depth ∧ s.g.depth ≤ 12 ∧ s.buf.length ≤ 3000 ∧ (s.g.depth = 0 → s.buf = [] ∧ s.g.quote = false ∧ s.g.skip = false) ∧ (s.g.skip = true → s.g.quote = true))

def F.ok (f : F) : Prop :=
  f.closed = true ∨ (0 ≤ f.depth ∧ f.depth ≤ 12 ∧ f.buf.length ≤ 3000 ∧ (f.depth = 0 → f.buf = [] ∧ f.quote = false ∧ f.skip = false) ∧ (f.skip = true → f.quote = true))

theorem F.zero_ok : F.zero.ok := .inr (by simp [F.zero])
theorem F.shut_ok : F.shut.ok := .inl rfl

/-- One step of the one is one step of the other. -/
theorem step_alike (s : IS) (b : UInt8) (h : s.ok) : (iStep s b).ok ∧ sStep ⟨s.done, s.out⟩ b = ⟨(iStep s b).done, (iStep s b).out⟩ := by
  obtain ⟨⟨d, q, k, c⟩, buf, out⟩ := s
  cases c
  · rcases h with h | ⟨h1, h2, h3, h4, h5⟩
    · simp at h
    simp only at h1 h2 h3 h4 h5
    generalize hb : (b.toNat : Int) = n
    unfold iStep sStep sByte
    simp only [IS.done, F.shut, hb, Bool.false_eq_true, if_false]
    by_cases c1 : (d == 0 && blank n) = true
    · simp only [c1, if_true]
      exact ⟨.inr ⟨h1, h2, h3, h4, h5⟩, by simp⟩
    simp only [c1]
    by_cases c2 : (d == 0 && n != 123 && n != 91) = true
    · simp only [c2, if_true]
      exact ⟨.inl rfl, by simp⟩
    simp only [c2]
    have hl : (buf ++ [b]).length = buf.length + 1 := by simp
    by_cases c3 : 3000 < buf.length + 1
    · have c3' : (3000 : Int) < (buf.length : Int) + 1 := by omega
      simp only [hl, c3, c3', decide_true, inText, if_true, Bool.not_true, Bool.false_and, Bool.false_eq_true, if_false]
      exact ⟨.inl rfl, by simp⟩
    have c3' : ¬ (3000 : Int) < (buf.length : Int) + 1 := by omega
    have hd0 : d = 0 → n = 123 ∨ n = 91 := by
      intro e; subst e; simp at c2; by_cases e : n = 123
      · exact .inl e
      · exact .inr (c2 e)
    simp only [hl, c3, c3', decide_false, inText, Bool.false_eq_true, if_false]
    cases k
    · cases q
      · simp only [Bool.false_eq_true, if_false, Bool.false_and]
        by_cases e34 : (n == 34) = true
        · have : n = 34 := by simpa using e34
          have hd : d ≠ 0 := by intro e; rcases hd0 e with e | e <;> omega
          simp [e34, hd, IS.ok]; omega
        · simp only [e34]
          by_cases eb : (n == 123 || n == 91) = true
          · simp only [eb, if_true]
            by_cases e12 : 12 < d + 1
            · simp [e12, IS.ok]
            · have hd1 : d + 1 ≠ 0 := by omega
              simp [e12, IS.ok, hd1]; omega
          · have hd : d ≠ 0 := by intro e; apply eb; rcases hd0 e with e | e <;> simp [e]
            simp only [eb]
            by_cases ec : (n == 125 || n == 93) = true
            · simp only [ec, if_true]
              by_cases e1 : d - 1 = 0
              · simp [e1, IS.ok, F.zero]
              · simp [e1, IS.ok]; omega
            · simp [ec, hd, IS.ok]; omega
      · have hd : d ≠ 0 := by intro e; simpa using (h4 e).2.1
        simp only [Bool.true_and, if_true, Bool.not_true, Bool.false_eq_true, if_false]
        by_cases e92 : (n == 92) = true
        · have : n = 92 := by simpa using e92
          subst this
          simp [hd, IS.ok]; omega
        · by_cases e34 : (n == 34) = true
          · have : n = 34 := by simpa using e34
            subst this
            simp [hd, IS.ok]; omega
          · have e92' : (n == 92) = false := by simpa using e92
            have e34' : (n == 34) = false := by simpa using e34
            have e34'' : (n != 34) = true := by simp [bne, e34']
            simp [e92', e34', e34'', hd, IS.ok]; omega
    · have hd : d ≠ 0 := by intro e; simpa using (h4 e).2.2
      simp [hd, IS.ok]; omega
  · simp [iStep, sStep, IS.done, F.shut, IS.ok]

theorem fold_alike (t : List UInt8) : ∀ (s : IS), s.ok → (t.foldl iStep s).ok ∧ t.foldl sStep ⟨s.done, s.out⟩ = ⟨(t.foldl iStep s).done, (t.foldl iStep s).out⟩ := by
  induction t with
  | nil => exact fun s h => ⟨h, rfl⟩
  | cons b t ih =>
    intro s h
    obtain ⟨h1, h2⟩ := step_alike s b h
    simp only [List.foldl_cons, h2]
    exact ih _ h1

theorem feed_alike (f : F) (t : List UInt8) (h : f.ok) (hc : f.closed = true → f = F.shut) : sFeed f t = ⟨(iFeed f t).done, (iFeed f t).out⟩ ∧ (iFeed f t).ok := by
  have h0 : IS.done ⟨⟨f.depth, f.quote, f.skip, f.closed⟩, f.buf, []⟩ = f := by
    unfold IS.done
    by_cases e : f.closed = true
    · rw [if_pos (by simpa using e)]; exact (hc e).symm
    · have e' : f.closed = false := by simpa using e
      simp only [e', Bool.false_eq_true, if_false]
      rw [← e']
  have h1 : IS.ok ⟨⟨f.depth, f.quote, f.skip, f.closed⟩, f.buf, []⟩ := h
  have := fold_alike t ⟨⟨f.depth, f.quote, f.skip, f.closed⟩, f.buf, []⟩ h1
  rw [h0] at this
  exact ⟨this.2, this.1⟩

theorem F.done_ok (s : IS) (h : s.ok) : s.done.ok ∧ (s.done.closed = true → s.done = F.shut) := by
  unfold IS.done
  by_cases e : s.g.closed = true
  · simp [e, F.shut_ok]
  · have e' : s.g.closed = false := by simpa using e
    rcases h with h | h
    · exact absurd h e
    · simp only [e', Bool.false_eq_true, if_false]
      exact ⟨.inr h, by simp⟩

end Go.Proofs.Ytopebociobgmhaa.Fr

/-
  The small evaluator: one operation of a region; the regions.
-/
import Derived.Test.YtlimecojoiimaaaGreatUj
import Derived.Orders
namespace Go.Proofs.YtlimecojoiimaaaGreat
open Go.RowKit

section
variable {P : Program} {I : Nat → Prop} {μ μ' : Mu} {w w' : World} {hp : Hp} {out : Out}

/-- No function of the program is the one that the machine answers itself. -/
def Named (P : Program) : Prop := ∀ (f : FuncId) (fn : Func), P.funcs[f]? = some fn → fn.name ≠ "runtime.NumGoroutine"
/-- What is evaluated has a body. -/
def Bodied (P : Program) (callF : CallF) : Prop := ∀ f vs hp r, callF f vs hp = some r → ∃ fn, P.funcs[f]? = some fn ∧ fn.body.isSome = true

theorem op_wp {callF : CallF} (hn : Named P) (hb : Bodied P callF) (hc : CallOK P callF) {o : Oper} {e : Operand → V} {a : Act} {K : Act → World → Prop} {Q : Exit → Act → World → Prop} (h : evOp P callF e hp o.op = some out)
    (hops : ∀ x ∈ o.op.operands, V.R P I μ w (e x) (a.eval x)) (pre : Pre P I μ w hp out.acc out.hp.length)
    (hK : ∀ val w' μ' I', V.R P I' μ' w' out.v val → Good P I I' μ μ' w w' hp out.hp out.acc out.wr → K (a.put o.dst val) w') : o.wp P a w K Q := by
  unfold evOp at h
  split at h
  · rename_i f args ts hop
    rw [hop] at hops
    split at h
    case h_2 => cases h
    case h_1 g cap hf =>
    have hfv := hops f (by simp [Op.operands, Call.operands])
    rw [hf] at hfv
    simp only [V.R] at hfv
    obtain ⟨vs, hfv, hcap⟩ := hfv
    have hargs : V.RL P I μ w (args.toList.map e ++ cap) ((args.map a.eval) ++ vs).toList := by
      rw [Array.toList_append, Array.toList_map]
      exact (RL_map fun x hx => hops x (by simp only [Op.operands, Call.operands]; exact Array.mem_append.2 (.inr (by simpa using hx)))).append hcap
    have hbody : ∃ fn, P.funcs[g]? = some fn ∧ fn.body.isSome = true := by
      unfold evCall at h
      simp only at h
      split at h
      · rename_i r hr; exact hb _ _ _ _ hr
      · cases h
    obtain ⟨fn, hfn, hbd⟩ := hbody
    have hrun : (execOp a.eval o).run P w = .ok (.enter g ((args.map a.eval) ++ vs)) w := by
      have hbd' : fn.body.isNone = false := by cases hq : fn.body <;> simp_all
      have hname : (fn.name == "runtime.NumGoroutine") = false := by simpa using hn g fn hfn
      simp only [execOp, hop, resolve, hfv, Deferred.ofValue, Sem.run_bind, Sem.run_pure, Result.andThen_ok, invoke, callFunc, run_program, hfn, hname, hbd', Bool.false_eq_true, if_false, Array.empty_append]
    unfold Oper.wp
    rw [hrun]
    refine (call_sound hc h hargs pre).mono ?_
    rintro e' w' ⟨val, μ', I', rfl, hR, hG⟩
    exact hK val w' μ' I' hR hG
  · split at h
    · rename_i hpl
      cases h
      obtain ⟨nx, val, w', μ', h1, h2, h3, h4⟩ := plain_sound hpl hops pre
      unfold Oper.wp
      rw [h1]
      rcases h2 with rfl | ⟨rfl, rfl⟩
      · exact hK _ _ _ _ h3 h4
      · exact hK _ _ _ _ h3 h4
    · obtain ⟨val, w', μ', h1, h3, h4⟩ := more_sound (fun _ => rfl) h hops pre
      unfold Oper.wp
      rw [h1]
      exact hK _ _ _ _ h3 h4

theorem op_tidy {callF : CallF} (hc : CallOK P callF) {o : Op} {e : Operand → V} (h : evOp P callF e hp o = some out) : Tidy hp out.hp out.acc out.wr := by
  unfold evOp at h
  split at h
  · split at h
    · exact call_tidy hc h
    · cases h
  · split at h
    · rename_i hpl; cases h; exact plain_tidy hpl
    · exact more_tidy h

/-- The last writer's. -/
def lw {α : Type} (touch : Nat → Bool) (can : Nat → α) (L : Nat → Bool) : Nat → α
  | 0 => can 0
  | n + 1 => if L n && touch n then can (n + 1) else lw touch can L n

theorem lw_full {α : Type} {touch : Nat → Bool} {can : Nat → α} {L : Nat → Bool} : ∀ {j : Nat}, (∀ i, i < j → touch i = true → L i = true) → (∀ i, i < j → touch i = false → can (i + 1) = can i) → lw touch can L j = can j
  | 0, _, _ => rfl
  | j + 1, h, k => by
    unfold lw
    cases ht : touch j with
    | true => simp [h j (by omega) ht]
    | false =>
      simp only [Bool.and_false, Bool.false_eq_true, if_false, k j (by omega) ht]
      exact lw_full (fun i hi => h i (by omega)) (fun i hi => k i (by omega))
theorem lw_skip {α : Type} {touch : Nat → Bool} {can : Nat → α} {L : Nat → Bool} {j : Nat} : ∀ {n : Nat}, j ≤ n → (∀ i, j ≤ i → i < n → touch i = true → L i = false) → lw touch can L n = lw touch can L j
  | 0, h, _ => by rw [show j = 0 by omega]
  | n + 1, h, k => by
    by_cases e : j = n + 1
    · rw [e]
    · rw [lw]
      have : (L n && touch n) = false := by
        cases ht : touch n with
        | true => simp [k n (by omega) (by omega) ht]
        | false => simp
      rw [this, if_neg (by simp), lw_skip (by omega) fun i h1 h2 => k i h1 (by omega)]
def addL (L : Nat → Bool) (j : Nat) : Nat → Bool := fun i => i == j || L i
theorem lw_add_ne {α : Type} {touch : Nat → Bool} {can : Nat → α} {L : Nat → Bool} {j : Nat} (h : touch j = false) : ∀ n, lw touch can (addL L j) n = lw touch can L n
  | 0 => rfl
  | n + 1 => by
    unfold lw
    rw [lw_add_ne h n]
    by_cases e : n = j
    · subst e; simp [h]
    · simp [addL, e]
theorem lw_add_eq {α : Type} {touch : Nat → Bool} {can : Nat → α} {L : Nat → Bool} {j n : Nat} (hj : j < n) (h : touch j = true) (k : ∀ i, j < i → i < n → touch i = true → L i = false) : lw touch can (addL L j) n = can (j + 1) := by
  rw [lw_skip (j := j + 1) (by omega) (fun i h1 h2 h3 => by simp only [addL]; rw [k i (by omega) h2 h3]; simp; omega)]
  unfold lw
  simp [addL, h]

end

/-- A region's run in its own order: the states between. -/
structure Run (P : Program) (ops : Array Oper) (sn : Nat → St) (ac wr : Nat → List Nat) : Prop where
  step : ∀ i o, ops[i]? = some o → ∃ callF, Bodied P callF ∧ CallOK P callF ∧ evStep P callF ops (sn i) o = some (sn (i + 1), ac i, wr i)

section
variable {P : Program} {callF : CallF} {ops : Array Oper} {sn : Nat → St} {ac wr : Nat → List Nat}

def touchB (sn : Nat → St) (wr : Nat → List Nat) (b i : Nat) : Bool := (wr i).contains b || (decide ((sn i).hp.length ≤ b) && decide (b < (sn (i + 1)).hp.length))
def touchT (ops : Array Oper) (t i : Nat) : Bool := ((ops[i]?).bind (·.dst)) == some t

theorem step_parts (hc : CallOK P callF) {s s' : St} {o : Oper} {acc wrs : List Nat} (h : evStep P callF ops s o = some (s', acc, wrs)) :
    Tidy s.hp s'.hp acc wrs ∧ s'.wr = s.wr ++ wrs ∧ ∃ v, s'.tm = putV s.tm o.dst v := by
  unfold evStep at h
  simp only [putK_eq, forceV_eq, forceW_eq] at h
  split at h
  · split at h
    · rename_i out ho
      cases h
      exact ⟨op_tidy hc ho, rfl, _, rfl⟩
    · cases h
  · cases h
    exact ⟨.same _ (by simp), by simp, _, rfl⟩
  · cases h

theorem Run.parts (hr : Run P ops sn ac wr) (i : Nat) (o : Oper) (ho : ops[i]? = some o) : Tidy (sn i).hp (sn (i + 1)).hp (ac i) (wr i) ∧ (sn (i + 1)).wr = (sn i).wr ++ wr i ∧ ∃ v, (sn (i + 1)).tm = putV (sn i).tm o.dst v := by
  obtain ⟨callF, _, hc, h⟩ := hr.step i o ho
  exact step_parts hc h

theorem putV_ne {tm : Tm} {d : Option Tmp} {v : V} {t : Nat} (h : d ≠ some t) : (putV tm d v).get t = tm.get t := by
  cases d with
  | none => rfl
  | some d => exact tm.get_ne v (fun e => h (by rw [e]))
theorem putV_len (tm : Tm) (d : Option Tmp) (v : V) : (putV tm d v).n = tm.n := by
  cases d <;> rfl

theorem lens (hr : Run P ops sn ac wr) : ∀ {i j : Nat}, i ≤ j → j ≤ ops.size → (sn i).hp.length ≤ (sn j).hp.length := by
  intro i j h
  induction j with
  | zero => intro _; rw [show i = 0 by omega]; exact Nat.le_refl _
  | succ j ih =>
    intro hj
    by_cases e : i = j + 1
    · rw [e]; exact Nat.le_refl _
    · exact Nat.le_trans (ih (by omega) (by omega)) (hr.parts j _ (Array.getElem?_eq_getElem (show j < ops.size by omega))).1.len

end
end Go.Proofs.YtlimecojoiimaaaGreat

/-
  The small evaluator at inputs that are not known: trees of what is owed.
-/
import Derived.Test.YtlimecojoiimaaaGreatUr
namespace Go.Proofs.YtlimecojoiimaaaGreat
open Go.RowKit

/-- A tree: what it comes to in the end, what is owed on the way; it parts by 'cond'. -/
inductive T (α : Type) : Type 1 where
  | done (a : α)
  | need (ps : List Prop) (t : T α)
  | bind {β : Type} (v : β) (k : β → T α)
  | fail
def T.WP {α : Type} (Q : α → Prop) : T α → Prop
  | .done a => Q a
  | .need ps t => All ps ∧ t.WP Q
  | .bind v k => ∀ y, y = v → (k y).WP Q
  | .fail => False
/-- The tree itself: reckoned at once. -/
def T.force {α : Type} (t : T α) : T α := match t with
  | .done a => .done a
  | .need ps t => .need ps t
  | .bind v k => .bind v k
  | .fail => .fail
theorem T.force_eq {α : Type} (t : T α) : t.force = t := by cases t <;> rfl
def needs {α : Type} (ps : List Prop) (t : T α) : T α :=
  match ps with
  | [] => t
  | p :: ps => .need (p :: ps) t
theorem WP_needs {α : Type} {Q : α → Prop} {ps : List Prop} {t : T α} (h : (needs ps t).WP Q) : All ps ∧ t.WP Q := by
  cases ps with
  | nil => exact ⟨trivial, h⟩
  | cons p ps => exact h
theorem WP_cond {α : Type} {Q : α → Prop} {b : Bool} {x y : T α} : (cond b x y).WP Q ↔ (b = true → x.WP Q) ∧ (b = false → y.WP Q) := by
  cases b <;> simp

theorem WP_cond_or {α : Type} {Q : α → Prop} {b : Bool} {x y : T α} (h : (cond b x y).WP Q) : x.WP Q ∨ y.WP Q := by
  cases b
  · exact .inr h
  · exact .inl h

/-- What a call is said to give: a value, and how it reads. -/
structure RRes : Type 1 where
  {β : Type}
  v : β
  r : β → Ret
abbrev ResT := FuncId → List V → Hp → Option RRes

/-- What is said of a loop: what is kept at its start, the state there; how it ends, the state then. -/
inductive LAlt where
  | one (k : Kp) (s0 : St) (ex : Ex) (s1 : St)
  | two (k : Kp) (s0 : St) (c : Bool) (ex : Ex) (s1 : St) (ex' : Ex) (s1' : St)

structure LRes : Type 1 where
  {β : Type}
  v : β
  alt : β → LAlt

structure Env : Type 1 where
  P : Program
  vw : Vw
  res : ResT
  ls : Nat → St → Option LRes := fun _ _ => none
  vs : List (Nat × Nat × V) := []
  sp : Nat → Nat → FuncId → List V → Hp → Option (Bool × Ret × Ret) := fun _ _ _ _ _ => none

def vsAt (vs : List (Nat × Nat × V)) (r i : Nat) : Option V := (vs.find? fun h => Nat.beq h.1 r && Nat.beq h.2.1 i).map (·.2.2)

def bodyB (P : Program) (f : FuncId) : Bool := match P.funcs[f]? with
  | some fn => fn.body.isSome
  | none => false
/-- A call whose result is r. -/
def callOut (hp : Hp) (ids : List Nat) (r : Ret) : Out :=
  ⟨V.ren (backTo ids hp.length) r.v, (hp.zipIdx.map fun x => if (r.wr.filterMap fun j => ids[j]?).contains x.2 then renB (backTo ids hp.length) (((pos ids x.2).bind fun j => r.hp[j]?).getD none) else x.1) ++ (r.hp.drop ids.length).map (renB (backTo ids hp.length)), ids, r.wr.filterMap fun j => ids[j]?⟩

section
variable {α : Type}

def callT (E : Env) (r i : Nat) (hp : Hp) (f : FuncId) (vs : List V) (k : Out → T α) : T α :=
  let ids := reach hp 100000 (V.refsL vs) []
  let vs' := V.renL (pos ids) vs
  let hp' := ids.map fun b => renB (pos ids) (hp.getD b none)
  match E.sp r i f vs' hp', bodyB E.P f with
  | some (c, r1, r2), true => cond c (.need [FnOK E.P f vs' hp' r1] (k (callOut hp ids r1))) (.need [FnOK E.P f vs' hp' r2] (k (callOut hp ids r2)))
  | _, b => match E.res f vs' hp', b with
    | some ⟨v, r⟩, true => .bind v fun y => .need [FnOK E.P f vs' hp' (r y)] (k (callOut hp ids (r y)))
    | _, _ => .fail

noncomputable def opT (E : Env) (r i : Nat) (e : Operand → V) (hp : Hp) (op : Op) (k : Out → T α) : T α :=
  match op with
  | .call { callee := .value f, args := args, argTypes := _ } =>
    match e f with
    | .fn g cap => callT E r i hp g (args.toList.map e ++ cap) k
    | _ => .fail
  | op => match vsAt E.vs r i, op with
    | some v, .load t x => match e x with
      | .ptr b o => match hp[b]?, E.P.underlying t, szOf E.P t with
        | some (some blk), some d, some _ => match rowD d with
          | true => .fail
          | false => .need [(flat blk.1)[o]? = some v] (k ⟨v, hp, [b], []⟩)
        | _, _, _ => .fail
      | _ => .fail
    | _, op => match evOpS E.P E.vw e hp op with
      | .one ps o => needs ps (k o)
      | .two c ps o qs o' => cond c (needs ps (k o)) (needs qs (k o'))
      | .no => .fail

/-- A known test is written down. -/
def knowK {β : Type _} (s : St) (d : Nat) (b : Bool) (k : St → β) : β := putK s.tm (some d) (.bool b) fun tm => k ⟨tm, s.hp, s.wr⟩
theorem Tr.set_same : ∀ (t : Tr) (i : Nat), t.set i (t.get i) = t
  | .leaf, _ => rfl
  | .node v l r, i => by
    unfold Tr.set Tr.get
    cases h0 : Nat.beq i 0
    · cases h1 : Nat.beq (i % 2) 1
      · simp only [Tr.set_same r]
      · simp only [Tr.set_same l]
    · rfl
theorem knowK_eq {β : Type _} {s : St} {d : Nat} {b : Bool} {k : St → β} (h : s.tm.get d = .bool b) : knowK s d b k = k s := by
  unfold knowK
  rw [putK_eq]
  have : putV s.tm (some d) (.bool b) = s.tm := by
    unfold Tm.get at h
    split at h
    · show (⟨s.tm.n, s.tm.t.set d (.bool b)⟩ : Tm) = s.tm
      rw [← h, Tr.set_same]
    · cases h
  rw [this]

noncomputable def runT (E : Env) (r i : Nat) (s : St) (o : Oper) (k : St → List Nat → List Nat → T α) : T α := opT E r i (evalV s.tm) s.hp o.op fun out => forceV out.v fun v => putK s.tm o.dst v fun tm => k ⟨tm, out.hp, forceW out.wr s.wr⟩ out.acc out.wr
def skipT (s : St) (o : Oper) (k : St → List Nat → List Nat → T α) : T α := putK s.tm o.dst (.lit undef) fun tm => k ⟨tm, s.hp, s.wr⟩ [] []
noncomputable def stepT (E : Env) (ops : Array Oper) (r i : Nat) (s : St) (o : Oper) (k : St → List Nat → List Nat → T α) : T α :=
  match o.guard with
  | none => opT E r i (evalV s.tm) s.hp o.op fun out => forceV out.v fun v => putK s.tm o.dst v fun tm => k ⟨tm, out.hp, forceW out.wr s.wr⟩ out.acc out.wr
  | some (j, want) => match (ops[j]?).bind (·.dst) with
    | some d => match s.tm.get d with
      | .bool b => match want with
        | true => cond b (knowK s d true fun s => runT E r i s o k) (knowK s d false fun s => skipT s o k)
        | false => cond b (knowK s d true fun s => skipT s o k) (knowK s d false fun s => runT E r i s o k)
      | .lit (.tuple _) => putK s.tm o.dst (.lit undef) fun tm => k ⟨tm, s.hp, s.wr⟩ [] []
      | _ => .fail
    | none => .fail

noncomputable def traceT (E : Env) (ops : Array Oper) (r : Nat) : Nat → List Oper → St → List Rec → (List Rec → St → T α) → T α
  | _, [], s, acc, k => k acc.reverse s
  | i, o :: rest, s, acc, k => stepT E ops r i s o fun s' ac wr => traceT E ops r (i + 1) rest s' ((s, ac, wr) :: acc) k

noncomputable def codeT (E : Env) (m : Nat) : Code → St → (Ex → St → T α) → T α
  | .skip, s, k => k .normal s
  | .region id ops draw, s, k => traceT E ops id 0 ops.toList s [] fun l s2 => match draw with
    | false => k .normal s2
    | true => match drawOK ops l s2 with
      | true => k .normal s2
      | false => .fail
  | .seq x y, s, k => codeT E m x s fun ex s' => match ex with
    | .normal => codeT E m y s' k
    | .exit i => k (.exit i) s'
    | .ret => k .ret s'
  | .cond c x y, s, k => match evalV s.tm c with
    | .bool b => match c with
      | .tmp t => cond b (knowK s t true fun s => codeT E m x s k) (knowK s t false fun s => codeT E m y s k)
      | _ => cond b (codeT E m x s k) (codeT E m y s k)
    | _ => .fail
  | .block id body, s, k => match E.ls id s with
    | some ⟨v, alt⟩ => .bind v fun y => match alt y with
      | .one kp s0 ex s1 => match permOK m (kp.ids m s) with
        | true => .need [normS E.P m kp s = s0, SoundC E.P m body s0 ex s1] (k (outEx id ex) s1)
        | false => .fail
      | .two kp s0 c ex s1 ex' s1' => match permOK m (kp.ids m s) with
        | true => .need [normS E.P m kp s = s0] (cond c (.need [SoundC E.P m body s0 ex s1] (k (outEx id ex) s1)) (.need [SoundC E.P m body s0 ex' s1'] (k (outEx id ex') s1')))
        | false => .fail
    | none => codeT E m body s fun ex s' => k (outEx id ex) s'
  | .exit id, s, k => k (.exit id) s
  | .ret, s, k => k .ret s
  | _, _, _ => .fail

/-- Which blocks keep their names behind a call. -/
def keepIds (m mode : Nat) (v : List V) (hp : Hp) : List Nat :=
  (List.range m ++ ((match mode with
    | 0 => V.ptrsL v
    | 1 => V.refsL v
    | _ => V.refsL v ++ (hp.take m).flatMap (fun (x : Option Blk) => match x with | some blk => V.refsL blk.1 | none => [])).filter fun b => Nat.ble m b)).eraseDups
/-- Which of them are slices, by their new numbers. -/
def sealIds (m : Nat) (ids : List Nat) (ptrs : List Nat) : List Nat := ((List.range ids.length).filter fun j => Nat.ble m j && !(ptrs.contains (ids.getD j 0)))
def retT (E : Env) (m mode : Nat) (fn : Func) (s : St) : T Ret :=
  match evResultL E.P s.hp s.tm fn.results.toList with
  | some v => match permOK m (keepIds m mode v s.hp) with
    | true => .done (gc E.P m (keepIds m mode v s.hp) (sealIds m (keepIds m mode v s.hp) (V.ptrsL v)) (oneOf v) s)
    | false => .fail
  | none => .fail
/-- A whole function. -/
noncomputable def fnT (E : Env) (mode : Nat) (f : FuncId) (vs : List V) (hp : Hp) : T Ret :=
  match E.P.funcs[f]? with
  | some fn => match fn.body with
    | some c => codeT E hp.length c ⟨Tm.start (vs.length + (fn.ntmps - vs.length)) vs, hp, []⟩ fun ex s => match ex with
      | .normal => retT E hp.length mode fn s
      | .ret => retT E hp.length mode fn s
      | .exit _ => .fail
    | none => .fail
  | none => .fail
/-- A piece of code; behind it only what is kept. -/
noncomputable def bodyT (E : Env) (m : Nat) (nf : Ex → Kp) (c : Code) (s : St) : T (Ex × St) :=
  codeT E m c s fun ex s' => match permOK m ((nf ex).ids m s') with
    | true => .done (ex, normS E.P m (nf ex) s')
    | false => .fail

variable {E : Env} {Q : α → Prop}

theorem noCall_ok (P : Program) : CallOK P fun _ _ _ => none := fun _ _ _ _ h => by cases h
theorem noCall_bodied (P : Program) : Bodied P fun _ _ _ => none := fun _ _ _ _ h => by cases h

theorem evOp_plain {P : Program} {callF : CallF} {e : Operand → V} {hp : Hp} {op : Op} {out : Out} (h : evPlain P e hp op = some out) : evOp P callF e hp op = some out := by
  unfold evOp
  split
  · simp [evPlain] at h
  · rw [h]

open Classical in
noncomputable def oneCall (f : FuncId) (vs : List V) (hp : Hp) (r : Ret) : CallF := fun f' vs' hp' => if f' = f ∧ vs' = vs ∧ hp' = hp then some r else none
theorem oneCall_ok {P : Program} {f : FuncId} {vs : List V} {hp : Hp} {r : Ret} (h : FnOK P f vs hp r) : CallOK P (oneCall f vs hp r) := by
  intro f' vs' hp' r' h'
  unfold oneCall at h'
  split at h'
  · rename_i hc; obtain ⟨rfl, rfl, rfl⟩ := hc; cases h'; exact h
  · cases h'
theorem oneCall_bodied {P : Program} {f : FuncId} {vs : List V} {hp : Hp} {r : Ret} (h : bodyB P f = true) : Bodied P (oneCall f vs hp r) := by
  intro f' vs' hp' r' h'
  unfold oneCall at h'
  split at h'
  · rename_i hc; obtain ⟨rfl, rfl, rfl⟩ := hc
    unfold bodyB at h
    split at h
    · rename_i fn hfn; exact ⟨fn, hfn, h⟩
    · cases h
  · cases h'

theorem callT_ok {r i : Nat} {hp : Hp} {f : FuncId} {vs : List V} {k : Out → T α} (h : (callT E r i hp f vs k).WP Q) :
    ∃ callF out, Bodied E.P callF ∧ CallOK E.P callF ∧ evCall callF hp f vs = some out ∧ (k out).WP Q := by
  unfold callT at h
  simp only at h
  split at h
  · rename_i c r1 r2 hr hb
    cases c
    · obtain ⟨⟨h1, _⟩, h2⟩ := h
      refine ⟨_, _, oneCall_bodied (r := r2) hb, oneCall_ok h1, ?_, h2⟩
      unfold evCall oneCall
      simp only [and_self, if_true]
      rfl
    · obtain ⟨⟨h1, _⟩, h2⟩ := h
      refine ⟨_, _, oneCall_bodied (r := r1) hb, oneCall_ok h1, ?_, h2⟩
      unfold evCall oneCall
      simp only [and_self, if_true]
      rfl
  · split at h
    · rename_i β v r hr hb
      obtain ⟨⟨h1, _⟩, h2⟩ := h v rfl
      refine ⟨_, _, oneCall_bodied (r := r v) hb, oneCall_ok h1, ?_, h2⟩
      unfold evCall oneCall
      simp only [and_self, if_true]
      rfl
    · exact h.elim

theorem opT_ok {r i : Nat} {e : Operand → V} {hp : Hp} {op : Op} {k : Out → T α} (h : (opT E r i e hp op k).WP Q) :
    ∃ callF out, Bodied E.P callF ∧ CallOK E.P callF ∧ evOp E.P callF e hp op = some out ∧ (k out).WP Q := by
  unfold opT at h
  split at h
  · split at h
    · rename_i f args ts g cap hf
      obtain ⟨callF, out, h1, h2, h3, h4⟩ := callT_ok h
      exact ⟨callF, out, h1, h2, by simp only [evOp, hf]; exact h3, h4⟩
    · exact h.elim
  · rename_i hne
    split at h
    · rename_i v t x hv
      split at h
      · rename_i b o hx
        split at h
        · rename_i blk d sz hb hu hs
          split at h
          · exact h.elim
          · rename_i hd
            obtain ⟨⟨h1, _⟩, h2⟩ := h
            refine ⟨_, _, noCall_bodied _, noCall_ok _, evOp_plain ?_, h2⟩
            simp only [evPlain, hx, evLoad, hb, hu, hs, hd, h1]
        · exact h.elim
      · exact h.elim
    · rename_i op _ _ _
      have hok := opS_ok (P := E.P) (vw := E.vw) (hp := hp) (e := e) op
      split at h
      · rename_i ps o hs
        rw [hs] at hok
        obtain ⟨h1, h2⟩ := WP_needs h
        exact ⟨_, _, noCall_bodied _, noCall_ok _, evOp_plain (hok h1), h2⟩
      · rename_i c ps o qs o' hs
        rw [hs] at hok
        cases c
        · obtain ⟨h1, h2⟩ := WP_needs h
          exact ⟨_, _, noCall_bodied _, noCall_ok _, evOp_plain (hok.2 rfl h1), h2⟩
        · obtain ⟨h1, h2⟩ := WP_needs h
          exact ⟨_, _, noCall_bodied _, noCall_ok _, evOp_plain (hok.1 rfl h1), h2⟩
      · exact h.elim

theorem stepT_ok {ops : Array Oper} {r i : Nat} {s : St} {o : Oper} {k : St → List Nat → List Nat → T α} (h : (stepT E ops r i s o k).WP Q) :
    ∃ callF s' acc wr, Bodied E.P callF ∧ CallOK E.P callF ∧ evStep E.P callF ops s o = some (s', acc, wr) ∧ (k s' acc wr).WP Q := by
  have go : wantedV ops s.tm o = some true → (opT E r i (evalV s.tm) s.hp o.op fun out => forceV out.v fun v => putK s.tm o.dst v fun tm => k ⟨tm, out.hp, forceW out.wr s.wr⟩ out.acc out.wr).WP Q →
      ∃ callF s' acc wr, Bodied E.P callF ∧ CallOK E.P callF ∧ evStep E.P callF ops s o = some (s', acc, wr) ∧ (k s' acc wr).WP Q := by
    intro hw h
    obtain ⟨callF, out, h1, h2, h3, h4⟩ := opT_ok h
    simp only [putK_eq, forceV_eq, forceW_eq] at h4
    refine ⟨callF, _, _, _, h1, h2, ?_, h4⟩
    unfold evStep
    simp only [hw, h3, putK_eq, forceV_eq, forceW_eq]
  have skip : wantedV ops s.tm o = some false → (putK s.tm o.dst (.lit undef) fun tm => k ⟨tm, s.hp, s.wr⟩ [] []).WP Q →
      ∃ callF s' acc wr, Bodied E.P callF ∧ CallOK E.P callF ∧ evStep E.P callF ops s o = some (s', acc, wr) ∧ (k s' acc wr).WP Q := by
    intro hw h
    simp only [putK_eq] at h
    refine ⟨_, _, _, _, noCall_bodied _, noCall_ok _, ?_, h⟩
    unfold evStep
    simp only [hw, putK_eq]
  unfold stepT at h
  split at h
  · rename_i hg
    exact go (by simp only [wantedV, hg]) h
  · rename_i j want hg
    split at h
    · rename_i d hd
      split at h
      · rename_i b hb
        split at h
        · cases b
          · simp only [cond_false, knowK_eq hb] at h
            exact skip (by simp [wantedV, hg, hd, hb]) h
          · simp only [cond_true, knowK_eq hb] at h
            exact go (by simp [wantedV, hg, hd, hb]) h
        · cases b
          · simp only [cond_false, knowK_eq hb] at h
            exact go (by simp [wantedV, hg, hd, hb]) h
          · simp only [cond_true, knowK_eq hb] at h
            exact skip (by simp [wantedV, hg, hd, hb]) h
      · rename_i hb
        exact skip (by simp only [wantedV, hg, hd, hb]) h
      · exact h.elim
    · exact h.elim

theorem traceT_ok {ops : Array Oper} {r : Nat} : ∀ {os : List Oper} {i : Nat} {s : St} {acc : List Rec} {k : List Rec → St → T α}, (traceT E ops r i os s acc k).WP Q →
    ∃ l s2, TraceR E.P ops os s l s2 ∧ (k (acc.reverse ++ l) s2).WP Q
  | [], i, s, acc, k, h => ⟨[], s, .nil s, by simpa [traceT] using h⟩
  | o :: rest, i, s, acc, k, h => by
    unfold traceT at h
    obtain ⟨callF, s', ac, wr, h1, h2, h3, h4⟩ := stepT_ok h
    obtain ⟨l, s2, h5, h6⟩ := traceT_ok h4
    refine ⟨(s, ac, wr) :: l, s2, .cons callF h1 h2 h3 h5, ?_⟩
    simpa using h6

theorem codeT_ok (hm : E.P.follows .mixedOrders = true) (hn : Named E.P) {m : Nat} : ∀ {c : Code} {s : St} {k : Ex → St → T α}, (codeT E m c s k).WP Q → ∃ ex s', SoundC E.P m c s ex s' ∧ (k ex s').WP Q
  | .skip, s, k, h => ⟨.normal, s, .skip, h⟩
  | .region id ops draw, s, k, h => by
    unfold codeT at h
    obtain ⟨l, s2, h1, h2⟩ := traceT_ok h
    simp only [List.reverse_nil, List.nil_append] at h2
    cases draw with
    | false => exact ⟨.normal, s2, .region hm hn h1 (fun h => by cases h), h2⟩
    | true =>
      simp only at h2
      split at h2
      · rename_i hd
        exact ⟨.normal, s2, .region hm hn h1 (fun _ => hd), h2⟩
      · exact h2.elim
  | .seq x y, s, k, h => by
    unfold codeT at h
    obtain ⟨ex, s', h1, h2⟩ := codeT_ok hm hn h
    cases ex with
    | normal =>
      obtain ⟨ex2, s2, h3, h4⟩ := codeT_ok hm hn h2
      exact ⟨ex2, s2, .seq h1 h3, h4⟩
    | exit i => exact ⟨_, _, .seq_out h1 (by simp), h2⟩
    | ret => exact ⟨_, _, .seq_out h1 (by simp), h2⟩
  | .cond c x y, s, k, h => by
    unfold codeT at h
    split at h
    · rename_i b hb
      have h' : (cond b (codeT E m x s k) (codeT E m y s k)).WP Q := by
        split at h
        · cases b
          · rwa [cond_false, knowK_eq hb] at h
          · rwa [cond_true, knowK_eq hb] at h
        · exact h
      clear h
      cases b
      · obtain ⟨ex, s', h1, h2⟩ := codeT_ok hm hn h'
        exact ⟨ex, s', .cond hb h1, h2⟩
      · obtain ⟨ex, s', h1, h2⟩ := codeT_ok hm hn h'
        exact ⟨ex, s', .cond hb h1, h2⟩
    · exact h.elim
  | .block id body, s, k, h => by
    unfold codeT at h
    split at h
    · replace h := h _ rfl
      simp only at h
      split at h
      · split at h
        · rename_i hp
          obtain ⟨⟨h1, h2, _⟩, h3⟩ := h
          exact ⟨_, _, .block (.pre (h1 ▸ normS_weak hp) h2), h3⟩
        · exact h.elim
      · split at h
        · rename_i hp
          obtain ⟨⟨h1, _⟩, h3⟩ := h
          rcases WP_cond_or h3 with h3 | h3
          · obtain ⟨⟨h2, _⟩, h4⟩ := h3
            exact ⟨_, _, .block (.pre (h1 ▸ normS_weak hp) h2), h4⟩
          · obtain ⟨⟨h2, _⟩, h4⟩ := h3
            exact ⟨_, _, .block (.pre (h1 ▸ normS_weak hp) h2), h4⟩
        · exact h.elim
    · obtain ⟨ex, s', h1, h2⟩ := codeT_ok hm hn h
      exact ⟨_, _, .block h1, h2⟩
  | .exit id, s, k, h => ⟨_, _, .exit, h⟩
  | .ret, s, k, h => ⟨_, _, .ret, h⟩
  | .loop _, _, _, h => h.elim
  | .rangeFunc _ _ _ _, _, _, h => h.elim
  | .scope _, _, _, h => h.elim
  | .label _, _, _, h => h.elim
  | .goto _, _, _, h => h.elim
  | .refuse _, _, _, h => h.elim

theorem fnT_ok (hm : E.P.follows .mixedOrders = true) (hn : Named E.P) {mode : Nat} {f : FuncId} {vs : List V} {hp : Hp} {Q : Ret → Prop} (h : (fnT E mode f vs hp).WP Q) : ∃ r, FnOK E.P f vs hp r ∧ Q r := by
  unfold fnT at h
  split at h
  · rename_i fn hfn
    split at h
    · rename_i c hc
      obtain ⟨ex, s, h1, h2⟩ := codeT_ok hm hn h
      have key : (retT E hp.length mode fn s).WP Q → ex = .normal ∨ ex = .ret → ∃ r, FnOK E.P f vs hp r ∧ Q r := by
        intro h hex
        unfold retT at h
        split at h
        · rename_i v hv
          split at h
          · rename_i hp
            exact ⟨_, fnOK_code hfn hc h1 hex hv hp rfl, h⟩
          · exact h.elim
        · exact h.elim
      cases ex with
      | normal => exact key h2 (.inl rfl)
      | ret => exact key h2 (.inr rfl)
      | exit _ => exact h2.elim
    · exact h.elim
  · exact h.elim
theorem fnOK_T (hm : E.P.follows .mixedOrders = true) (hn : Named E.P) {mode : Nat} {f : FuncId} {vs : List V} {hp : Hp} {r : Ret} {t : T Ret} (e : fnT E mode f vs hp = t) (h : t.WP (· = r)) : FnOK E.P f vs hp r := by
  subst e
  obtain ⟨r', h1, rfl⟩ := fnT_ok hm hn h
  exact h1

theorem bodyT_ok (hm : E.P.follows .mixedOrders = true) (hn : Named E.P) {m : Nat} {nf : Ex → Kp} {c : Code} {s : St} {Q : Ex × St → Prop} (h : (bodyT E m nf c s).WP Q) : ∃ ex s', SoundC E.P m c s ex s' ∧ Q (ex, s') := by
  unfold bodyT at h
  obtain ⟨ex, s', h1, h2⟩ := codeT_ok hm hn h
  split at h2
  · rename_i hp
    exact ⟨ex, _, h1.post (normS_weak hp), h2⟩
  · exact h2.elim

/-- A round of a loop: it ends, or goes on to its end. -/
def LoopQ (P : Program) (m : Nat) (body : Code) (ex : Ex) (s' : St) : Ex × St → Prop
  | (.normal, s1) => LoopTo P m body s1 ex s'
  | (.exit i, s1) => Ex.exit i = ex ∧ s1 = s'
  | (.ret, s1) => Ex.ret = ex ∧ s1 = s'
theorem loopT (hm : E.P.follows .mixedOrders = true) (hn : Named E.P) {m : Nat} {nf : Ex → Kp} {c : Code} {s s' : St} {ex : Ex} {t : T (Ex × St)} (e : bodyT E m nf c s = t) (h : t.WP (LoopQ E.P m c ex s')) : LoopTo E.P m c s ex s' := by
  subst e
  obtain ⟨ex1, s1, h1, h2⟩ := bodyT_ok hm hn h
  cases ex1 with
  | normal => exact .step h1 h2
  | exit i => obtain ⟨rfl, rfl⟩ := h2; exact .done h1 (by simp)
  | ret => obtain ⟨rfl, rfl⟩ := h2; exact .done h1 (by simp)
theorem soundT (hm : E.P.follows .mixedOrders = true) (hn : Named E.P) {m : Nat} {nf : Ex → Kp} {c : Code} {s s' : St} {ex : Ex} {t : T (Ex × St)} (e : bodyT E m nf c s = t) (h : t.WP (· = (ex, s'))) : SoundC E.P m c s ex s' := by
  subst e
  obtain ⟨ex1, s1, h1, h2⟩ := bodyT_ok hm hn h
  cases h2
  exact h1

end
end Go.Proofs.YtlimecojoiimaaaGreat

/-
  The small evaluator: what a piece of code comes to; loops; functions.
-/
import Derived.Test.YtlimecojoiimaaaGreatUo
import Derived.KernelRfl
namespace Go.Proofs.YtlimecojoiimaaaGreat
open Go.RowKit

/-- All that is owed. -/
def All : List Prop → Prop
  | [] => True
  | p :: ps => p ∧ All ps
theorem All.append : ∀ {ps qs : List Prop}, All (ps ++ qs) → All ps ∧ All qs
  | [], _, h => ⟨trivial, h⟩
  | _ :: _, _, h => ⟨⟨h.1, (All.append h.2).1⟩, (All.append h.2).2⟩

section
variable {P : Program}

/-- From state s the code goes to s', whatever lies around; m: how many blocks came in. -/
structure SoundC (P : Program) (m : Nat) (c : Code) (s : St) (ex : Ex) (s' : St) : Prop where
  st : ∀ hp0 : Hp, hp0.length = m → SR hp0 s → SR hp0 s'
  run : ∀ {hp0 : Hp} {I0 : Nat → Prop} {μ0 : Mu} {w0 : World}, hp0.length = m → ∀ {a : Act} {w : World} {Im : Nat → Prop} {μ : Mu}, CI P hp0 I0 μ0 w0 s a w Im μ →
    ∀ {Q : Exit → Act → World → Prop}, (∀ a' w' μ' Im', CI P hp0 I0 μ0 w0 s' a' w' Im' μ' → Q ex.toExit a' w') → c.wp P Q a w

theorem SoundC.skip {m : Nat} {s : St} : SoundC P m .skip s .normal s := ⟨fun _ _ h => h, fun _ _ _ _ _ C _ hQ => wp_skip (hQ _ _ _ _ C)⟩
theorem SoundC.exit {m id : Nat} {s : St} : SoundC P m (.exit id) s (.exit id) s := ⟨fun _ _ h => h, fun _ _ _ _ _ C _ hQ => wp_exit (hQ _ _ _ _ C)⟩
theorem SoundC.ret {m : Nat} {s : St} : SoundC P m .ret s .ret s := ⟨fun _ _ h => h, fun _ _ _ _ _ C _ hQ => wp_ret (hQ _ _ _ _ C)⟩
theorem SoundC.region (hm : P.follows .mixedOrders = true) (hn : Named P) {ops : Array Oper} {m id : Nat} {draw : Bool} {s s' : St} {l : List Rec} (hl : TraceR P ops ops.toList s l s') (hd : draw = true → drawOK ops l s' = true) : SoundC P m (.region id ops draw) s .normal s' :=
  ⟨fun _ _ h => region_static hl h, fun _ _ _ _ _ C _ hQ => region_sound hm hn hl hd C hQ⟩
theorem SoundC.seq {m : Nat} {x y : Code} {s s1 s2 : St} {ex : Ex} (h : SoundC P m x s .normal s1) (k : SoundC P m y s1 ex s2) : SoundC P m (.seq x y) s ex s2 :=
  ⟨fun hp0 e hs => k.st hp0 e (h.st hp0 e hs), fun e _ _ _ _ C _ hQ => wp_seq (h.run e C fun _ _ _ _ C' => k.run e C' hQ)⟩
theorem SoundC.seq_out {m : Nat} {x y : Code} {s s1 : St} {ex : Ex} (h : SoundC P m x s ex s1) (hne : ex ≠ .normal) : SoundC P m (.seq x y) s ex s1 :=
  ⟨h.st, fun e _ _ _ _ C _ hQ => wp_seq (h.run e C fun a' w' μ' Im' C' => by
    have := hQ a' w' μ' Im' C'
    cases ex with
    | normal => exact absurd rfl hne
    | exit _ => exact this
    | ret => exact this)⟩
theorem SoundC.block_in {m id : Nat} {c : Code} {s s1 : St} (h : SoundC P m c s (.exit id) s1) : SoundC P m (.block id c) s .normal s1 :=
  ⟨h.st, fun e _ _ _ _ C _ hQ => wp_block (h.run e C fun a' w' μ' Im' C' => by
    simp only [Ex.toExit, Exit.inBlock, if_true]; exact hQ a' w' μ' Im' C')⟩
theorem SoundC.block_out {m id : Nat} {c : Code} {s s1 : St} {ex : Ex} (h : SoundC P m c s ex s1) (hne : ex ≠ .exit id) : SoundC P m (.block id c) s ex s1 :=
  ⟨h.st, fun e _ _ _ _ C _ hQ => wp_block (h.run e C fun a' w' μ' Im' C' => by
    have := hQ a' w' μ' Im' C'
    cases ex with
    | normal => exact this
    | exit i =>
      simp only [Ex.toExit, Exit.inBlock]
      rw [if_neg (fun e => hne (by rw [e]))]
      exact this
    | ret => exact this)⟩

theorem SoundC.pre {m : Nat} {c : Code} {s s0 s' : St} {ex : Ex} (h : Weak P m s s0) (k : SoundC P m c s0 ex s') : SoundC P m c s ex s' :=
  ⟨fun hp0 e hs => k.st hp0 e (h.st hp0 e hs), fun e _ _ _ _ C _ hQ => by
    obtain ⟨_, _, C'⟩ := h.run e C
    exact k.run e C' hQ⟩
theorem SoundC.post {m : Nat} {c : Code} {s s0 s' : St} {ex : Ex} (k : SoundC P m c s ex s0) (h : Weak P m s0 s') : SoundC P m c s ex s' :=
  ⟨fun hp0 e hs => h.st hp0 e (k.st hp0 e hs), fun e _ _ _ _ C _ hQ => k.run e C fun a' w' _ _ C' => by
    obtain ⟨_, _, C''⟩ := h.run e C'
    exact hQ a' w' _ _ C''⟩

/-- A loop: 'inv k' holds behind k rounds; at 'inv N' the round leaves it. -/
theorem SoundC.loop {m : Nat} {body : Code} {ex : Ex} {s' : St} (inv : Nat → St) (N : Nat) (hstep : ∀ k, k < N → SoundC P m body (inv k) .normal (inv (k + 1))) (hend : SoundC P m body (inv N) ex s') (hne : ex ≠ .normal) :
    SoundC P m (.loop body) (inv 0) ex s' := by
  have key : ∀ d k, k + d = N → (∀ hp0 : Hp, hp0.length = m → SR hp0 (inv k) → SR hp0 s') ∧
      ∀ {hp0 : Hp} {I0 : Nat → Prop} {μ0 : Mu} {w0 : World}, hp0.length = m → ∀ {a : Act} {w : World} {Im : Nat → Prop} {μ : Mu}, CI P hp0 I0 μ0 w0 (inv k) a w Im μ →
        ∀ {Q : Exit → Act → World → Prop}, (∀ a' w' μ' Im', CI P hp0 I0 μ0 w0 s' a' w' Im' μ' → Q ex.toExit a' w') → Code.rounds P body Q (d + 1) a w := by
    intro d
    induction d with
    | zero =>
      intro k hk
      obtain rfl : k = N := by omega
      refine ⟨hend.st, fun e _ _ _ _ C Q hQ => ?_⟩
      rw [rounds_succ]
      refine hend.run e C fun a' w' μ' Im' C' => ?_
      have := hQ a' w' μ' Im' C'
      cases ex with
      | normal => exact absurd rfl hne
      | exit i => exact this
      | ret => exact this
    | succ d ih =>
      intro k hk
      obtain ⟨h1, h2⟩ := ih (k + 1) (by omega)
      have hs := hstep k (by omega)
      refine ⟨fun hp0 e h => h1 hp0 e (hs.st hp0 e h), fun e _ _ _ _ C Q hQ => ?_⟩
      rw [rounds_succ]
      exact hs.run e C fun a' w' μ' Im' C' => h2 e C' hQ
  obtain ⟨h1, h2⟩ := key N 0 (by omega)
  exact ⟨h1, fun e _ _ _ _ C _ hQ => wp_loop_rounds (N + 1) (h2 e C hQ)⟩

/-- A loop that comes from s to s'. -/
inductive LoopTo (P : Program) (m : Nat) (body : Code) : St → Ex → St → Prop where
  | done {s s' : St} {ex : Ex} (h : SoundC P m body s ex s') (hne : ex ≠ .normal) : LoopTo P m body s ex s'
  | step {s s1 s' : St} {ex : Ex} (h : SoundC P m body s .normal s1) (k : LoopTo P m body s1 ex s') : LoopTo P m body s ex s'

theorem SoundC.loopTo {m : Nat} {body : Code} {s s' : St} {ex : Ex} (h : LoopTo P m body s ex s') : SoundC P m (.loop body) s ex s' := by
  have key : ∃ N, (∀ hp0 : Hp, hp0.length = m → SR hp0 s → SR hp0 s') ∧
      ∀ {hp0 : Hp} {I0 : Nat → Prop} {μ0 : Mu} {w0 : World}, hp0.length = m → ∀ {a : Act} {w : World} {Im : Nat → Prop} {μ : Mu}, CI P hp0 I0 μ0 w0 s a w Im μ →
        ∀ {Q : Exit → Act → World → Prop}, (∀ a' w' μ' Im', CI P hp0 I0 μ0 w0 s' a' w' Im' μ' → Q ex.toExit a' w') → Code.rounds P body Q N a w := by
    induction h with
    | @done s s' ex h hne =>
      refine ⟨1, h.st, fun e _ _ _ _ C Q hQ => ?_⟩
      rw [rounds_succ]
      refine h.run e C fun a' w' μ' Im' C' => ?_
      have := hQ a' w' μ' Im' C'
      cases ex with
      | normal => exact absurd rfl hne
      | exit i => exact this
      | ret => exact this
    | @step s s1 s' ex h k ih =>
      obtain ⟨N, h1, h2⟩ := ih
      refine ⟨N + 1, fun hp0 e hs => h1 hp0 e (h.st hp0 e hs), fun e _ _ _ _ C Q hQ => ?_⟩
      rw [rounds_succ]
      exact h.run e C fun a' w' μ' Im' C' => h2 e C' hQ
  obtain ⟨N, h1, h2⟩ := key
  exact ⟨h1, fun e _ _ _ _ C _ hQ => wp_loop_rounds N (h2 e C hQ)⟩


end

/-- A function's code, the body of its block of a number, that of the loop therein. -/
def bodyOf (P : Program) (f : FuncId) : Code := match P.funcs[f]? with
  | some fn => match fn.body with
    | some c => c
    | none => .skip
  | none => .skip
def findBlock (id : Nat) : Code → Option Code
  | .seq x y => match findBlock id x with
    | some c => some c
    | none => findBlock id y
  | .cond _ x y => match findBlock id x with
    | some c => some c
    | none => findBlock id y
  | .block i c => if Nat.beq i id then some c else findBlock id c
  | .loop c => findBlock id c
  | _ => none
def lp (P : Program) (f : FuncId) (id : Nat) : Code := match findBlock id (bodyOf P f) with
  | some (.loop c) => c
  | _ => .skip
def blk (P : Program) (f : FuncId) (id : Nat) : Code := match findBlock id (bodyOf P f) with
  | some c => c
  | _ => .skip

def outEx (id : Nat) : Ex → Ex
  | .exit i => if i = id then .normal else .exit i
  | e => e

/-- No function bears the name that the machine answers itself. -/
def namedB (P : Program) : Bool := P.funcs.toList.all fun fn => fn.name != "runtime.NumGoroutine"
theorem named_of {P : Program} (h : namedB P = true) : Named P := by
  intro f fn hf
  have := List.all_eq_true.1 h fn (by
    obtain ⟨hlt, e⟩ := Array.getElem?_eq_some_iff.1 hf
    rw [← e]; simp)
  simpa using this


section
variable {P : Program}

theorem SoundC.cond {m : Nat} {c : Operand} {x y : Code} {s s' : St} {ex : Ex} {b : Bool} (hb : evalV s.tm c = .bool b) (h : SoundC P m (if b then x else y) s ex s') : SoundC P m (.cond c x y) s ex s' := by
  refine ⟨h.st, fun {hp0 I0 μ0 w0} e {a w Im μ} C {Q} hQ => ?_⟩
  have hR : V.R P Im μ w (evalV s.tm c) (a.eval c) := by
    cases c with
    | tmp t => exact C.tm t
    | const v => exact R_ofValue v
    | global g => simp [evalV, V.R]
    | func f => simp [evalV, Act.eval, V.R, V.RL]
  rw [hb] at hR
  simp only [V.R] at hR
  cases b with
  | true => exact wp_cond_true hR (h.run e C hQ)
  | false => exact wp_cond_false hR (h.run e C hQ)

theorem SoundC.block {m id : Nat} {c : Code} {s s1 : St} {ex : Ex} (h : SoundC P m c s ex s1) : SoundC P m (.block id c) s (outEx id ex) s1 := by
  cases ex with
  | normal => exact h.block_out (by simp)
  | ret => exact h.block_out (by simp)
  | exit i =>
    simp only [outEx]
    split
    · rename_i e; subst e; exact h.block_in
    · rename_i e; exact h.block_out (by simpa using e)

theorem fnOK_code {f : FuncId} {fn : Func} {c : Code} {vs : List V} {hp : Hp} {ex : Ex} {s : St} {v : List V} {r : Ret} (hfn : P.funcs[f]? = some fn) (hc : fn.body = some c)
    (h : SoundC P hp.length c ⟨Tm.start (vs.length + (fn.ntmps - vs.length)) vs, hp, []⟩ ex s) (hex : ex = .normal ∨ ex = .ret) (hres : evResultL P s.hp s.tm fn.results.toList = some v)
    {ids seals : List Nat} (hids : permOK hp.length ids = true) (hr : gc P hp.length ids seals (oneOf v) s = r) : FnOK P f vs hp r := by
  subst hr
  have hst : SR hp s := h.st hp rfl ⟨Nat.le_refl _, fun _ _ _ => rfl, fun _ _ h => h⟩
  refine ⟨gc_tidy hids hst, fun I w μ vals hvals pre hdom => ?_⟩
  have hh : ∀ b blk, hp[b]? = some (some blk) → Holds P I μ w b blk := fun b blk hb => pre.holds b (by simpa using at_lt hb) blk hb
  have hinj : ∀ b c blk blk' g, b ≠ c → hp[b]? = some (some blk) → hp[c]? = some (some blk') → μ b = some g → μ c = some g → False := fun b c b1 b2 g hne hb hc => pre.inj b (by simpa using at_lt hb) c (by simpa using at_lt hc) b1 b2 g hne hb hc
  have hvl := hvals.length
  simp at hvl
  have C0 : CI P hp I μ w ⟨Tm.start (vs.length + (fn.ntmps - vs.length)) vs, hp, []⟩ { tmps := vals ++ Array.replicate (fn.ntmps - vals.size) undef, defers := [] } w I μ := by
    refine ⟨fun t => ?_, by simp [hvl, Tm.start, Tm.fill_n], rfl, hh, hinj, hdom, fun b g hg _ => hg, .refl _ _, .refl _, fun b hb blk hblk => ?_, Nat.le_refl _, fun _ _ _ => rfl, fun _ _ h => h, by simp, .refl _, fun k h => .inl h, pre.ilt, ⟨hh, hinj, hdom⟩⟩
    · rcases Tm.start_get (vs.length + (fn.ntmps - vs.length)) vs t with e | e
      · show V.R P I μ w ((Tm.start (vs.length + (fn.ntmps - vs.length)) vs).get t) _
        rw [e]; simp [V.R]
      · have ht : t < vs.length := (List.getElem?_eq_some_iff.1 e).1
        obtain ⟨u, hu, hR⟩ := hvals.get e
        rw [Array.getElem?_toList] at hu
        rw [Array.getD_eq_getD_getElem?, Array.getElem?_append, if_pos (by omega), hu]
        exact hR
    · have := at_lt (hp := hp) hblk; omega
  refine calls_of_wp hfn hc ?_
  refine h.run rfl C0 fun a' w' μ' Im' C => ?_
  obtain ⟨val, hr, hR⟩ := results_sound (fn := fn) C.tm C.holds C.ilt C.inj hres
  obtain ⟨μr, Ir, hR', hG⟩ := gc_sound hids C hdom hR
  rcases hex with rfl | rfl
  · exact ⟨C.defers, val, hr, val, μr, Ir, rfl, hR', hG⟩
  · exact ⟨C.defers, val, hr, val, μr, Ir, rfl, hR', hG⟩


end
end Go.Proofs.YtlimecojoiimaaaGreat

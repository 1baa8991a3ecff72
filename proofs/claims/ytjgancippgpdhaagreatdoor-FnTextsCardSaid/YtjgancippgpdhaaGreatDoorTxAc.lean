/-
  The small evaluator: results of functions; what is no more named reads as values.
  The small evaluator: what a piece of code comes to; loops; functions.
  The small evaluator at inputs that are not known: what an operation comes to, and what is owed for it.
  The small evaluator at inputs that are not known: trees of what is owed.
  Layouts of lists: general laws; numbers.
  The small evaluator: what is proved of a block that is sealed holds of one that is not.
  Loops whose rounds are counted.
  Values of the document, as they lie in memory.
-/
import Derived.Test.YtjgancippgpdhaaGreatDoorTxAb
import Derived.KernelRfl
namespace Go.Proofs.YtjgancippgpdhaaGreatDoor
open Go.RowKit

section
variable {P : Program} {callF : CallF}

def resSem (tmps : Array Value) : ResultVar → Sem Value
  | .tmp t => pure (tmps.getD t undef)
  | .cell x t => do loadVar t (← asAddr (tmps.getD x undef))

theorem result_sound {hp : Hp} {tm : Tm} {a : Act} {w : World} {Im : Nat → Prop} {μ : Mu} (htm : ∀ t, V.R P Im μ w (tm.get t) (a.tmps.getD t undef)) (hh : ∀ b blk, hp[b]? = some (some blk) → Holds P Im μ w b blk)
    (hil : ILt P Im w) (hi : ∀ b c blk blk' g, b ≠ c → hp[b]? = some (some blk) → hp[c]? = some (some blk') → μ b = some g → μ c = some g → False) {r : ResultVar} {v : V} (h : evResult P hp tm r = some v) :
    ∃ val, (resSem a.tmps r).run P w = .ok val w ∧ V.R P Im μ w v val := by
  unfold resSem
  unfold evResult at h
  split at h
  · cases h; exact ⟨_, rfl, htm _⟩
  · rename_i x t
    obtain ⟨out, ho, rfl⟩ := Option.map_eq_some_iff.1 h
    have hx := htm x
    obtain ⟨h1, h2, h3, val, hr, hR⟩ := load_sound ho hx ⟨hil, fun b _ blk hb => hh b blk hb, fun b _ c _ b1 b2 g hne hb hc => hi b c b1 b2 g hne hb hc, fun b hb hb' => by
      have e : out.hp = hp := by
        unfold evLoad at ho
        split at ho
        case h_3 => cases ho
        all_goals
          split at ho
          case h_2 => cases ho
          split at ho
          · split at ho <;> cases ho; rfl
          · split at ho <;> cases ho; rfl
      rw [e] at hb'; omega⟩
    refine ⟨val, ?_, hR⟩
    unfold evLoad at ho
    split at ho
    case h_3 => cases ho
    case h_2 cs hxe =>
      rw [hxe] at hx
      simp only [V.R] at hx
      obtain ⟨g, off, hg, _⟩ := hx
      simp only [hg, Instr.loadAt, Instr.sureAddr, Sem.run_bind, Sem.run_pure, Result.andThen_ok] at hr
      simp only [hg, asAddr, Sem.run_bind, Sem.run_pure, Result.andThen_ok]
      exact hr
    case h_1 b off hxe =>
    rw [hxe] at hx
    simp only [V.R] at hx
    obtain ⟨g, _, hg⟩ := hx
    simp only [hg, Instr.loadAt, Instr.sureAddr, Sem.run_bind, Sem.run_pure, Result.andThen_ok] at hr
    simp only [hg, asAddr, Sem.run_bind, Sem.run_pure, Result.andThen_ok]
    exact hr

theorem resultL_sound {hp : Hp} {tm : Tm} {a : Act} {w : World} {Im : Nat → Prop} {μ : Mu} (htm : ∀ t, V.R P Im μ w (tm.get t) (a.tmps.getD t undef)) (hh : ∀ b blk, hp[b]? = some (some blk) → Holds P Im μ w b blk)
    (hil : ILt P Im w) (hi : ∀ b c blk blk' g, b ≠ c → hp[b]? = some (some blk) → hp[c]? = some (some blk') → μ b = some g → μ c = some g → False) : ∀ {rs : List ResultVar} {vs : List V}, evResultL P hp tm rs = some vs →
    ∃ vals : List Value, (rs.mapM (resSem a.tmps)).run P w = .ok vals w ∧ V.RL P Im μ w vs vals
  | [], vs, h => by cases h; exact ⟨[], rfl, by simp [V.RL]⟩
  | r :: rs, vs, h => by
    unfold evResultL at h
    split at h
    case h_2 => cases h
    case h_1 v vs' h1 h2 =>
    cases h
    obtain ⟨val, hr, hR⟩ := result_sound htm hh hil hi h1
    obtain ⟨vals, hrs, hRs⟩ := resultL_sound htm hh hil hi h2
    refine ⟨val :: vals, ?_, by simp only [V.RL]; exact ⟨_, _, rfl, hR, hRs⟩⟩
    rw [List.mapM_cons, Sem.run_bind, hr]
    simp only [Result.andThen_ok, Sem.run_bind, hrs, Sem.run_pure]

theorem results_sound {fn : Func} {hp : Hp} {tm : Tm} {a : Act} {w : World} {Im : Nat → Prop} {μ : Mu} (htm : ∀ t, V.R P Im μ w (tm.get t) (a.tmps.getD t undef)) (hh : ∀ b blk, hp[b]? = some (some blk) → Holds P Im μ w b blk)
    (hil : ILt P Im w) (hi : ∀ b c blk blk' g, b ≠ c → hp[b]? = some (some blk) → hp[c]? = some (some blk') → μ b = some g → μ c = some g → False) {vs : List V} (h : evResultL P hp tm fn.results.toList = some vs) :
    ∃ val, (results fn a.tmps).run P w = .ok val w ∧ V.R P Im μ w (oneOf vs) val := by
  obtain ⟨vals, hr, hR⟩ := resultL_sound htm hh hil hi h
  have hl := hR.length
  have hrun : (results fn a.tmps).run P w = .ok (if h : vals.toArray.size = 1 then vals.toArray[0] else .tuple vals.toArray) w := by
    have e : results fn a.tmps = (do let vs ← fn.results.mapM (resSem a.tmps); pure (if h : vs.size = 1 then vs[0] else .tuple vs)) := by
      unfold results
      first | rfl | (congr 1; congr 1; funext r; cases r <;> rfl) | (congr 1)
    rw [e, Sem.run_bind, Array.mapM_eq_mapM_toList]
    simp only [map_eq_pure_bind, Sem.run_bind, Sem.run_pure]
    rw [hr]
    simp only [Result.andThen_ok]
  refine ⟨_, hrun, ?_⟩
  match vs, vals, hR, hl with
  | [], [], _, _ => simp [oneOf, V.R, V.RL]
  | [v], [u], hR, _ =>
    simp only [V.RL] at hR
    obtain ⟨u', us, e, h1, _⟩ := hR
    cases e
    simpa [oneOf] using h1
  | v1 :: v2 :: vs, u1 :: u2 :: us, hR, _ => simp only [oneOf]; simp; simp only [V.R]; exact ⟨_, rfl, by simpa using hR⟩

end

/-- What is no more named: pieces that are sealed stay as they are. -/
def frzSeg (f : V → V) : List V → List V
  | [] => []
  | x :: t => match x with
    | .sld c => match t with
      | [] => c
      | _ :: _ => c ++ frzSeg f t
    | x => f x :: frzSeg f t
theorem frzSeg_seal {f : V → V} {c : List V} : ∀ {t : List V}, frzSeg f (.sld c :: t) = c ++ frzSeg f t
  | [] => by simp [frzSeg]
  | y :: u => rfl
/-- What bears no name any more reads as a value. -/
def frzIn (P : Program) (hp : Hp) (kept : List Nat) (m : Nat) : Nat → V → V
  | 0, _ => .junk
  | n + 1, v => match v with
    | .sl b off k _ => if kept.contains b || decide (b < m) then .junk else
      match hp[b]? with
      | some (some blk) => match hasSeal blk.1 with
        | true => if Nat.beq off 0 then .dsl k false (frzSeg (frzIn P hp kept m n) blk.1) else .junk
        | false => match szOf P blk.2 with
          | some s => if ((blk.1.drop off).take (k * s)).length = k * s then .dsl k false (((blk.1.drop off).take (k * s)).map (frzIn P hp kept m n)) else .junk
          | none => .junk
      | _ => .junk
    | .ptr _ _ => .junk
    | .agg cs => .agg (cs.map (frzIn P hp kept m n))
    | .tup cs => .tup (cs.map (frzIn P hp kept m n))
    | .fn f cs => .fn f (cs.map (frzIn P hp kept m n))
    | .box f cs => .box f (cs.map (frzIn P hp kept m n))
    | .dsl k _ cs => .dsl k false cs
    | v => v
def frz (P : Program) (hp : Hp) (kept : List Nat) (m : Nat) : Nat → V → V
  | 0, _ => .junk
  | n + 1, v => match v with
    | .sl b off k full => match pos kept b with
      | some j => .sl j off k full
      | none => frzIn P hp kept m (n + 1) (.sl b off k full)
    | .ptr b off => match pos kept b with
      | some j => .ptr j off
      | none => .junk
    | .agg cs => .agg (cs.map (frz P hp kept m n))
    | .tup cs => .tup (cs.map (frz P hp kept m n))
    | .fn f cs => .fn f (cs.map (frz P hp kept m n))
    | .box f cs => .box f (cs.map (frz P hp kept m n))
    | v => v

mutual
/-- Nothing is said of room behind what is only read. -/
def V.can : V → V
  | .dsl n _ cs => .dsl n false cs
  | .agg cs => .agg (V.canL cs)
  | .tup cs => .tup (V.canL cs)
  | .int k n => .int k n
  | .bool b => .bool b
  | .str s => .str s
  | .nilp => .nilp
  | .ptr b o => .ptr b o
  | .sl b o n f => .sl b o n f
  | .dptr cs => .dptr cs
  | .sld cs => .sld cs
  | .fn f cs => .fn f cs
  | .box f cs => .box f cs
  | .nilf => .nilf
  | .lit u => .lit u
  | .junk => .junk
def V.canL : List V → List V
  | [] => []
  | c :: cs => V.can c :: V.canL cs
end
/-- The cells of pieces, when they are sealed. -/
def flatC : List V → List V
  | [] => []
  | x :: t => match x with
    | .sld c => match t with
      | [] => c
      | _ :: _ => c ++ flatC t
    | x => V.can x :: flatC t
theorem flatC_seal {c : List V} : ∀ {t : List V}, flatC (.sld c :: t) = c ++ flatC t
  | [] => by simp [flatC]
  | y :: u => rfl
def soleSeal : List V → Bool
  | [x] => match x with
    | .sld _ => true
    | _ => false
  | _ => false
def sealSt (m b : Nat) (s : St) : St :=
  match s.hp[b]? with
  | some (some blk) => match Nat.ble m b && !(soleSeal blk.1), V.refsL blk.1 with
    | true, [] => ⟨s.tm, s.hp.set b (some ([.sld (flatC blk.1)], blk.2)), s.wr⟩
    | _, _ => s
  | _ => s
def sealAll (m : Nat) : List Nat → St → St
  | [], s => s
  | b :: bs, s => sealAll m bs (sealSt m b s)

section
variable {P : Program} {callF : CallF}

theorem frzSeg_sound {I I' : Nat → Prop} {μ : Mu} {w : World} {f : V → V} (h : ∀ c u, V.R P I μ w c u → V.R P I' noMu w (f c) u) (hsub : Sub I I') : ∀ {l : List V} {vs : List Value}, CR P I μ w l vs → V.RL P I' noMu w (frzSeg f l) vs
  | [], _, k => by simpa [CR, frzSeg, V.RL] using k
  | x :: t, vs, k => by
    rcases seal_or x with ⟨c, rfl⟩ | hx
    · obtain ⟨us, vs', rfl, h1, h2⟩ := CR.seal_iff.1 k
      rw [frzSeg_seal]
      exact (h1.keep (.refl w (fun _ => False)) hsub (.refl _)).append (frzSeg_sound h hsub h2)
    · obtain ⟨u, us, rfl, h1, h2⟩ := (CR.cons_iff hx).1 k
      have e : frzSeg f (x :: t) = f x :: frzSeg f t := by cases x <;> first | (exact absurd rfl (hx _)) | rfl
      rw [e]
      simp only [V.RL]
      exact ⟨u, us, rfl, h _ _ h1, frzSeg_sound h hsub h2⟩
theorem mapSeg_sound {I I' : Nat → Prop} {μ μ' : Mu} {w : World} {f : V → V} (h : ∀ c u, V.R P I μ w c u → V.R P I' μ' w (f c) u) (hf : ∀ c, f (.sld c) = .sld c) (hsub : Sub I I') : ∀ {l : List V} {vs : List Value}, CR P I μ w l vs → CR P I' μ' w (l.map f) vs
  | [], _, k => by simpa [CR] using k
  | x :: t, vs, k => by
    rw [List.map_cons]
    rcases seal_or x with ⟨c, rfl⟩ | hx
    · obtain ⟨us, vs', rfl, h1, h2⟩ := CR.seal_iff.1 k
      rw [hf]
      exact CR.seal_iff.2 ⟨us, vs', rfl, h1.keep (.refl w (fun _ => False)) hsub (.refl _), mapSeg_sound h hf hsub h2⟩
    · obtain ⟨u, us, rfl, h1, h2⟩ := (CR.cons_iff hx).1 k
      have h3 := h _ _ h1
      exact (CR.cons_iff fun c e => by rw [e] at h3; simp [V.R] at h3).2 ⟨u, us, rfl, h3, mapSeg_sound h hf hsub h2⟩

mutual
theorem R_can {I : Nat → Prop} {μ : Mu} {w : World} : ∀ (v : V) (u : Value), V.R P I μ w v u → V.R P I μ w (V.can v) u
  | .int _ _, _, h => by simpa only [V.can, V.R] using h
  | .bool _, _, h => by simpa only [V.can, V.R] using h
  | .str _, _, h => by simpa only [V.can, V.R] using h
  | .nilp, _, h => by simpa only [V.can, V.R] using h
  | .ptr _ _, _, h => by simpa only [V.can, V.R] using h
  | .sl _ _ _ _, _, h => by simpa only [V.can, V.R] using h
  | .dsl _ _ _, _, h => by
    simp only [V.can, V.R] at h ⊢
    obtain ⟨a, cap, h1, h2, _, h4, h5⟩ := h
    exact ⟨a, cap, h1, h2, by simp, h4, h5⟩
  | .dptr _, _, h => by simpa only [V.can, V.R] using h
  | .sld _, _, h => by simp [V.R] at h
  | .agg cs, _, h => by
    simp only [V.can, V.R] at h ⊢
    obtain ⟨vs, h1, h2⟩ := h
    exact ⟨vs, h1, RL_can cs _ h2⟩
  | .tup cs, _, h => by
    simp only [V.can, V.R] at h ⊢
    obtain ⟨vs, h1, h2⟩ := h
    exact ⟨vs, h1, RL_can cs _ h2⟩
  | .fn _ cs, _, h => by simpa only [V.can, V.R] using h
  | .box _ cs, _, h => by simpa only [V.can, V.R] using h
  | .nilf, _, h => by simpa only [V.can, V.R] using h
  | .lit _, _, h => by simpa only [V.can, V.R] using h
  | .junk, _, _ => by simp [V.can, V.R]
theorem RL_can {I : Nat → Prop} {μ : Mu} {w : World} : ∀ (cs : List V) (us : List Value), V.RL P I μ w cs us → V.RL P I μ w (V.canL cs) us
  | [], _, h => by simpa only [V.canL, V.RL] using h
  | c :: cs, _, h => by
    simp only [V.canL, V.RL] at h ⊢
    obtain ⟨u, us', h1, h2, h3⟩ := h
    exact ⟨u, us', h1, R_can c u h2, RL_can cs us' h3⟩
end
theorem refs_can : (∀ v : V, (V.can v).refs = v.refs) ∧ (∀ l : List V, V.refsL (V.canL l) = V.refsL l) := by
  constructor
  · intro v
    exact V.rec (motive_1 := fun v => (V.can v).refs = v.refs) (motive_2 := fun l => V.refsL (V.canL l) = V.refsL l)
      (fun _ _ => rfl) (fun _ => rfl) (fun _ => rfl) rfl (fun _ _ => rfl) (fun _ _ _ _ => rfl) (fun _ _ _ _ => rfl) (fun _ _ => rfl) (fun _ _ => rfl) (fun _ h => by simpa only [V.can, V.refs] using h) (fun _ h => by simpa only [V.can, V.refs] using h) (fun _ _ _ => rfl) (fun _ _ _ => rfl) rfl (fun _ => rfl) rfl rfl (fun _ _ h1 h2 => by simp only [V.canL, V.refsL, h1, h2]) v
  · intro l
    exact V.rec_1 (motive_1 := fun v => (V.can v).refs = v.refs) (motive_2 := fun l => V.refsL (V.canL l) = V.refsL l)
      (fun _ _ => rfl) (fun _ => rfl) (fun _ => rfl) rfl (fun _ _ => rfl) (fun _ _ _ _ => rfl) (fun _ _ _ _ => rfl) (fun _ _ => rfl) (fun _ _ => rfl) (fun _ h => by simpa only [V.can, V.refs] using h) (fun _ h => by simpa only [V.can, V.refs] using h) (fun _ _ _ => rfl) (fun _ _ _ => rfl) rfl (fun _ => rfl) rfl rfl (fun _ _ h1 h2 => by simp only [V.canL, V.refsL, h1, h2]) l
theorem can_noSeal {x : V} (hx : ∀ c, x ≠ .sld c) : ∀ c, V.can x ≠ .sld c := by
  intro c e
  cases x <;> simp only [V.can] at e <;> first | (cases e; done) | exact hx _ rfl
theorem flatC_cons {x : V} {t : List V} (hx : ∀ c, x ≠ .sld c) : flatC (x :: t) = V.can x :: flatC t := by
  cases x <;> first | (exact absurd rfl (hx _)) | rfl
theorem CR.nomuC {I : Nat → Prop} {μ : Mu} {w : World} : ∀ {l : List V} {vs : List Value}, V.refsL l = [] → CR P I μ w l vs → V.RL P I noMu w (flatC l) vs
  | [], _, _, h => by simpa [CR, flatC, V.RL] using h
  | x :: t, vs, hr, h => by
    simp only [V.refsL, List.append_eq_nil_iff] at hr
    rcases seal_or x with ⟨c, rfl⟩ | hx
    · obtain ⟨us, vs', rfl, h1, h2⟩ := CR.seal_iff.1 h
      rw [flatC_seal]; exact h1.append (CR.nomuC hr.2 h2)
    · obtain ⟨u, us, rfl, h1, h2⟩ := (CR.cons_iff hx).1 h
      rw [flatC_cons hx]
      simp only [V.RL]
      exact ⟨u, us, rfl, R_can _ _ (R_nomu _ _ hr.1 h1), CR.nomuC hr.2 h2⟩

/-- What is known of s is known of s'. -/
structure Weak (P : Program) (m : Nat) (s s' : St) : Prop where
  st : ∀ hp0 : Hp, hp0.length = m → SR hp0 s → SR hp0 s'
  run : ∀ {hp0 : Hp} {I0 : Nat → Prop} {μ0 : Mu} {w0 : World}, hp0.length = m → ∀ {a : Act} {w : World} {Im : Nat → Prop} {μ : Mu}, CI P hp0 I0 μ0 w0 s a w Im μ → ∃ Im' μ', CI P hp0 I0 μ0 w0 s' a w Im' μ'

/-- The state that is kept: these temporaries, these blocks; what else is reached reads as values. -/
def normTm (P : Program) (hp : Hp) (perm : List Nat) (m : Nat) (tm : Tm) : List Nat → Tm → Tm
  | [], t => t
  | i :: is, t => normTm P hp perm m tm is (t.put i (frz P hp perm m 100 (tm.get i)))
def normSt (P : Program) (m : Nat) (keep perm : List Nat) (s : St) : St :=
  ⟨normTm P s.hp perm m s.tm keep ⟨s.tm.n, Tr.mk0 11⟩,
   perm.map (fun b => if decide (b < m) && !s.wr.contains b then s.hp.getD b none else (s.hp.getD b none).map fun blk => (blk.1.map (frz P s.hp perm m 100), blk.2)),
   (s.wr.filter fun b => decide (b < m)).eraseDups⟩

theorem normTm_get (hp : Hp) (perm : List Nat) (m : Nat) (tm : Tm) (t : Nat) : ∀ (is : List Nat) (t0 : Tm), (normTm P hp perm m tm is t0).get t = t0.get t ∨ (normTm P hp perm m tm is t0).get t = .junk ∨ (normTm P hp perm m tm is t0).get t = frz P hp perm m 100 (tm.get t)
  | [], _ => .inl rfl
  | i :: is, t0 => by
    unfold normTm
    rcases normTm_get hp perm m tm t is (t0.put i (frz P hp perm m 100 (tm.get i))) with h | h | h
    · by_cases e : i = t
      · subst e
        rcases t0.get_eq i (frz P hp perm m 100 (tm.get i)) with h2 | h2
        · right; right; rw [h, h2.1]
        · right; left; rw [h, h2]
      · left; rw [h, t0.get_ne _ e]
    · exact .inr (.inl h)
    · exact .inr (.inr h)
theorem normTm_n (hp : Hp) (perm : List Nat) (m : Nat) (tm : Tm) : ∀ (is : List Nat) (t0 : Tm), (normTm P hp perm m tm is t0).n = t0.n
  | [], _ => rfl
  | _ :: is, t0 => by unfold normTm; rw [normTm_n hp perm m tm is]; rfl

/-- Does the list begin with all that came in, each block once? -/
def permOK (m : Nat) (perm : List Nat) : Bool := (List.range m).all (fun j => perm[j]? == some j) && decide perm.Nodup

/-- What is known behind: of values, too. -/
structure WeakV (P : Program) (m : Nat) (s s' : St) (f : V → V) : Prop where
  st : ∀ hp0 : Hp, hp0.length = m → SR hp0 s → SR hp0 s'
  run : ∀ {hp0 : Hp} {I0 : Nat → Prop} {μ0 : Mu} {w0 : World}, hp0.length = m → ∀ {a : Act} {w : World} {Im : Nat → Prop} {μ : Mu}, CI P hp0 I0 μ0 w0 s a w Im μ → ∃ Im' μ', CI P hp0 I0 μ0 w0 s' a w Im' μ' ∧ ∀ v u, V.R P Im μ w v u → V.R P Im' μ' w (f v) u
theorem norm_weakV {m : Nat} {keep ids : List Nat} {s : St} (hp : permOK m ids = true) : WeakV P m s (normSt P m keep ids s) (frz P s.hp ids m 100) := by
  unfold permOK at hp
  rw [Bool.and_eq_true, List.all_eq_true, decide_eq_true_eq] at hp
  obtain ⟨hlow1, hnd'⟩ := hp
  have hlow0 : ∀ j, j < m → ids[j]? = some j := fun j hj => by simpa using hlow1 j (by simpa using hj)
  have hlen : m ≤ ids.length := by
    rcases Nat.lt_or_ge ids.length m with h | h
    · have := hlow0 ids.length h
      simp at this
    · exact h
  constructor
  · intro hp0 e hst
    have hget : ∀ b, b < m → s.hp[b]? = some (s.hp.getD b none) := by
      intro b hb
      have : b < s.hp.length := by have := hst.len; omega
      rw [List.getD_eq_getElem?_getD, List.getElem?_eq_getElem this]; rfl
    refine ⟨by simp only [normSt, List.length_map]; omega, fun b hb hn => ?_, fun b hb h => ?_⟩
    · have hnw : b ∉ s.wr := fun h => hn (by simp only [normSt, List.mem_eraseDups, List.mem_filter]; exact ⟨h, by simpa using (show b < m by omega)⟩)
      simp only [normSt]
      rw [List.getElem?_map, hlow0 b (by omega)]
      simp only [Option.map_some]
      rw [if_pos (by simp [hnw, show b < m by omega]), ← hget b (by omega)]
      exact hst.frame b hb hnw
    · obtain ⟨blk, h⟩ := h
      simp only [normSt] at h
      rw [List.getElem?_map, hlow0 b (by omega)] at h
      simp only [Option.map_some, Option.some.injEq] at h
      refine hst.alive b hb ?_
      split at h
      · exact ⟨blk, by rw [hget b (by omega), h]⟩
      · obtain ⟨blk0, h0, _⟩ := Option.map_eq_some_iff.1 h
        exact ⟨blk0, by rw [hget b (by omega), h0]⟩
  · intro hp0 I0 μ0 w0 e a w Im μ C
    subst e
    have hlow : ∀ j, j < hp0.length → ids[j]? = some j := by
      intro j hj
      exact hlow0 j hj
    have hhigh : ∀ j b, hp0.length ≤ j → ids[j]? = some b → hp0.length ≤ b := by
      intro j b hj hb
      rcases Nat.lt_or_ge b hp0.length with h | h
      · have h1 := pos_of hnd' (hlow b h)
        rw [pos_of hnd' hb] at h1
        cases h1; omega
      · exact h
    let μr : Mu := fun j => match ids[j]? with
      | some b => μ b
      | none => none
    have hμr : ∀ j b, ids[j]? = some b → μr j = μ b := by intro j b h; simp [μr, h]
    have hρ : ∀ b b' g, pos ids b = some b' → μ b = some g → μr b' = some g := by
      intro b b' g hb hg; rw [hμr b' b (pos_spec hb)]; exact hg
    let Ir : Nat → Prop := fun k => Im k ∨ ∃ b, b ∉ ids ∧ hp0.length ≤ b ∧ Alive s.hp b ∧ μ b = some k
    have hsub : Sub Im Ir := fun k h => .inl h
    have hnir : ∀ b blk g, b ∈ ids → s.hp[b]? = some (some blk) → μ b = some g → ¬ Ir g := by
      rintro b blk g hbi hb hg (h | ⟨c, hci, _, ⟨blk', hc⟩, hcg⟩)
      · exact (C.holds b blk hb).nimm hg h
      · exact C.inj b c _ _ g (by rintro rfl; exact hci hbi) hb hc hg hcg
    have hE : Evo Im w w (fun _ => False) := .refl _ _
    have frzIn_sound : ∀ (n : Nat) (c : V) (u : Value), V.R P Im μ w c u → V.R P Ir noMu w (frzIn P s.hp ids hp0.length n c) u := by
      intro n
      induction n with
      | zero => intro c u _; simp [frzIn, V.R]
      | succ n ih =>
        have ihL : ∀ (cs : List V) (us : List Value), V.RL P Im μ w cs us → V.RL P Ir noMu w (cs.map (frzIn P s.hp ids hp0.length n)) us := by
          intro cs
          induction cs with
          | nil => intro us h; simpa [V.RL] using h
          | cons c cs ihc =>
            intro us h
            simp only [V.RL] at h
            obtain ⟨u, us', rfl, h1, h2⟩ := h
            simp only [List.map_cons, V.RL]
            exact ⟨u, us', rfl, ih c u h1, ihc us' h2⟩
        intro c u h
        unfold frzIn
        split
        · rename_i b off k full
          split
          · simp [V.R]
          · rename_i hc
            simp only [Bool.or_eq_true, decide_eq_true_eq, not_or] at hc
            split
            · rename_i blk hb
              split
              · rename_i hs0
                split
                · rename_i hoff
                  have hoff' : off = 0 := by simpa using hoff
                  subst hoff'
                  simp only [V.R] at h ⊢
                  obtain ⟨g, cap, e, N, i, hg, rfl, h1, h2, h3, _⟩ := h
                  obtain ⟨g', cs, fr, hg', _, hw, _, h4, h5⟩ := C.holds b blk hb
                  rw [hg] at hg'; cases hg'
                  have h6 := frzSeg_sound (f := frzIn P s.hp ids hp0.length n) ih hsub h5
                  have h7 := h6.length
                  refine ⟨some ⟨g, 0, none⟩, cap, rfl, h1, by simp, .inr ⟨_, _, rfl⟩, .inr ⟨g, 0, rfl, .inr ⟨b, by simpa using hc.1, by omega, ⟨blk, hb⟩, hg⟩, cs, _, fr, hw, ?_⟩⟩
                  rw [List.drop_zero]
                  rw [List.length_take, Nat.min_eq_left (by simpa using h4)] at h7
                  rw [← h7]
                  exact h6
                · simp [V.R]
              · rename_i hs0
                have hfl := flat_noSeal hs0
                split
                · rename_i sz hsz
                  split
                  · rename_i hl
                    simp only [V.R] at h ⊢
                    obtain ⟨g, cap, e, N, i, hg, rfl, h1, h2, h3, _⟩ := h
                    obtain ⟨g', cs, fr, hg', _, hw, _, h4, h5⟩ := C.holds b blk hb
                    rw [hg] at hg'; cases hg'
                    have h5 := h5.toRL
                    rw [hfl] at h4 h5
                    refine ⟨some ⟨g, off, none⟩, cap, rfl, h1, by simp, .inr ⟨_, _, rfl⟩, .inr ⟨g, off, rfl, .inr ⟨b, by simpa using hc.1, by omega, ⟨blk, hb⟩, hg⟩, cs, _, fr, hw, ?_⟩⟩
                    have h6 := (h5.drop off).take (k * sz)
                    rw [List.length_map, hl]
                    have e1 : (cs.toList.drop off).take (k * sz) = ((cs.toList.take blk.1.length).drop off).take (k * sz) := by
                      simp only [List.length_take, List.length_drop] at hl
                      rw [List.drop_take, List.take_take, Nat.min_eq_left (by omega)]
                    rw [e1]
                    exact ihL _ _ h6
                  · simp [V.R]
                · simp [V.R]
            · simp [V.R]
        · simp [V.R]
        · simp only [V.R] at h ⊢; obtain ⟨vs, h1, h2⟩ := h; exact ⟨vs, h1, ihL _ _ h2⟩
        · simp only [V.R] at h ⊢; obtain ⟨vs, h1, h2⟩ := h; exact ⟨vs, h1, ihL _ _ h2⟩
        · simp only [V.R] at h ⊢; obtain ⟨vs, h1, h2⟩ := h; exact ⟨vs, h1, ihL _ _ h2⟩
        · simp only [V.R] at h ⊢; obtain ⟨vs, h1, h2⟩ := h; exact ⟨vs, h1, ihL _ _ h2⟩
        · simp only [V.R] at h ⊢
          obtain ⟨a, cap, h1, h2, _, h4, h5⟩ := h
          refine ⟨a, cap, h1, h2, by simp, h4, ?_⟩
          rcases h5 with h5 | ⟨g, off, k1, k2, k3⟩
          · exact .inl h5
          · obtain ⟨cells, e, fr, k4, k5⟩ := k3
            exact .inr ⟨g, off, k1, hsub _ k2, cells, e, fr, k4, k5.keep hE hsub (MuLe.refl _)⟩
        · rename_i h1 h2 h3 h4 h5 h7 h6
          cases c
          case ptr => exact absurd rfl (h2 _ _)
          case sl => exact absurd rfl (h1 _ _ _ _)
          case agg => exact absurd rfl (h3 _)
          case tup => exact absurd rfl (h4 _)
          case fn => exact absurd rfl (h5 _ _)
          case box => exact absurd rfl (h7 _ _)
          case dsl => exact absurd rfl (h6 _ _ _)
          case dptr => exact (h.keep hE hsub (MuLe.refl _) : V.R P Ir μ w _ u) |> (fun h => by simpa only [V.R] using h)
          all_goals (first | (simp only [V.R] at h; done) | (simp only [V.R]; done) | (simp only [V.R] at h ⊢; exact h))
    have frz_sound : ∀ (n : Nat) (c : V) (u : Value), V.R P Im μ w c u → V.R P Ir μr w (frz P s.hp ids hp0.length n c) u := by
      intro n
      induction n with
      | zero => intro c u _; simp [frz, V.R]
      | succ n ih =>
        have ihL : ∀ (cs : List V) (us : List Value), V.RL P Im μ w cs us → V.RL P Ir μr w (cs.map (frz P s.hp ids hp0.length n)) us := by
          intro cs
          induction cs with
          | nil => intro us h; simpa [V.RL] using h
          | cons c cs ihc =>
            intro us h
            simp only [V.RL] at h
            obtain ⟨u, us', rfl, h1, h2⟩ := h
            simp only [List.map_cons, V.RL]
            exact ⟨u, us', rfl, ih c u h1, ihc us' h2⟩
        intro c u h
        unfold frz
        split
        · rename_i b off k full
          split
          · rename_i j hj
            simp only [V.R] at h ⊢
            obtain ⟨g, cap, e, N, i, hg, r⟩ := h
            exact ⟨g, cap, e, N, i, hρ b j g hj hg, r⟩
          · exact R_up (frzIn_sound (n + 1) _ u h)
        · rename_i b off
          split
          · rename_i j hj
            simp only [V.R] at h ⊢
            obtain ⟨g, hg, r⟩ := h
            exact ⟨g, hρ b j g hj hg, r⟩
          · simp [V.R]
        · simp only [V.R] at h ⊢; obtain ⟨vs, h1, h2⟩ := h; exact ⟨vs, h1, ihL _ _ h2⟩
        · simp only [V.R] at h ⊢; obtain ⟨vs, h1, h2⟩ := h; exact ⟨vs, h1, ihL _ _ h2⟩
        · simp only [V.R] at h ⊢; obtain ⟨vs, h1, h2⟩ := h; exact ⟨vs, h1, ihL _ _ h2⟩
        · simp only [V.R] at h ⊢; obtain ⟨vs, h1, h2⟩ := h; exact ⟨vs, h1, ihL _ _ h2⟩
        · rename_i h1 h2 h3 h4 h5 h6
          cases c
          case ptr => exact absurd rfl (h2 _ _)
          case sl => exact absurd rfl (h1 _ _ _ _)
          case agg => exact absurd rfl (h3 _)
          case tup => exact absurd rfl (h4 _)
          case fn => exact absurd rfl (h5 _ _)
          case box => exact absurd rfl (h6 _ _)
          case dsl => exact (h.keep hE hsub (MuLe.refl _) : V.R P Ir μ w _ u) |> (fun h => by simpa only [V.R] using h)
          case dptr => exact (h.keep hE hsub (MuLe.refl _) : V.R P Ir μ w _ u) |> (fun h => by simpa only [V.R] using h)
          all_goals (first | (simp only [V.R] at h; done) | (simp only [V.R]; done) | (simp only [V.R] at h ⊢; exact h))
    have hle : MuLe μ0 μr := by
      intro b g hg
      rw [hμr b b (hlow b (C.ent.dom b g hg))]
      exact C.le b g hg
    have hwr : ∀ b, b ∈ ((s.wr.filter fun b => decide (b < hp0.length)).eraseDups) ↔ b ∈ s.wr ∧ b < hp0.length := by intro b; simp
    have hat : ∀ (j : Nat) (blk : Blk), (normSt P hp0.length keep ids s).hp[j]? = some (some blk) → ∃ b, ids[j]? = some b ∧ ((b < hp0.length ∧ b ∉ s.wr ∧ s.hp[b]? = some (some blk)) ∨ ∃ blk0 : Blk, s.hp[b]? = some (some blk0) ∧ blk = (blk0.1.map (frz P s.hp ids hp0.length 100), blk0.2)) := by
      intro j blk h
      simp only [normSt] at h
      rw [List.getElem?_map] at h
      obtain ⟨b, hb, h⟩ := Option.map_eq_some_iff.1 h
      refine ⟨b, hb, ?_⟩
      have hget : ∀ x : Blk, s.hp.getD b none = some x → s.hp[b]? = some (some x) := by
        intro x hx
        rw [List.getD_eq_getElem?_getD] at hx
        cases hq : s.hp[b]? with
        | none => rw [hq] at hx; cases hx
        | some y => rw [hq] at hx; simp at hx; rw [hx]
      split at h
      · rename_i hc
        simp only [Bool.and_eq_true, decide_eq_true_eq, Bool.not_eq_true'] at hc
        exact .inl ⟨hc.1, by simpa using hc.2, hget _ h⟩
      · obtain ⟨blk0, h0, rfl⟩ := Option.map_eq_some_iff.1 h
        exact .inr ⟨blk0, hget _ h0, rfl⟩
    have hat2 : ∀ (j : Nat) (blk : Blk), (normSt P hp0.length keep ids s).hp[j]? = some (some blk) → ∃ (b : Nat) (blk0 : Blk), ids[j]? = some b ∧ s.hp[b]? = some (some blk0) := by
      intro j blk h
      obtain ⟨b, hb, h⟩ := hat j blk h
      rcases h with ⟨_, _, h⟩ | ⟨blk0, h, _⟩
      · exact ⟨b, _, hb, h⟩
      · exact ⟨b, _, hb, h⟩
    have hdead : ∀ c, c < hp0.length → s.hp[c]? = some none → (normSt P hp0.length keep ids s).hp[c]? = some none := by
      intro c hcl hcn
      simp only [normSt]
      rw [List.getElem?_map, hlow c hcl]
      simp only [Option.map_some, List.getD_eq_getElem?_getD, hcn, Option.getD_some, Option.map_none]
      split <;> rfl
    have hget : ∀ b, b < hp0.length → s.hp[b]? = some (s.hp.getD b none) := by
      intro b hb
      have : b < s.hp.length := by have := C.len; omega
      rw [List.getD_eq_getElem?_getD, List.getElem?_eq_getElem this]; rfl
    refine ⟨Ir, μr, ?_, fun v u h => frz_sound 100 v u h⟩
    refine ⟨fun t => ?_, ?_, C.defers, fun j blk h => ?_, fun j k b1 b2 g hne h1 h2 g1 g2 => ?_, fun j g hg => ?_, fun j g hg hj => ?_, ?_, hle, fun j hj blk h g hg => ?_, ?_, fun b hb hn => ?_, fun b hb h => ?_, fun b hb hb0 => ?_, fun k h => .inl (C.isub k h), fun k hk => ?_, C.ilt.step (.refl w (fun _ => False)) (fun _ h => .inl h) fun k hk => ?_, C.ent⟩
    · show V.R P Ir μr w ((normTm P s.hp ids hp0.length s.tm keep ⟨s.tm.n, Tr.mk0 11⟩).get t) _
      have h0 : (⟨s.tm.n, Tr.mk0 11⟩ : Tm).get t = .junk := by
        unfold Tm.get
        cases Nat.blt t s.tm.n
        · rfl
        · exact Tr.mk0_get _ _
      rcases normTm_get (P := P) s.hp ids hp0.length s.tm t keep ⟨s.tm.n, Tr.mk0 11⟩ with h | h | h
      · rw [h, h0]; simp [V.R]
      · rw [h]; simp [V.R]
      · rw [h]; exact frz_sound 100 _ _ (C.tm t)
    · show a.tmps.size = (normTm P s.hp ids hp0.length s.tm keep ⟨s.tm.n, Tr.mk0 11⟩).n
      rw [normTm_n]; exact C.size
    · obtain ⟨b, hb, h⟩ := hat j blk h
      rcases h with ⟨hbl, hnw, h⟩ | ⟨blk0, h0, rfl⟩
      · have hj : j = b := by
          have h1 := pos_of hnd' (hlow b hbl)
          rw [pos_of hnd' hb] at h1
          cases h1; rfl
        subst hj
        have h0 : hp0[j]? = some (some blk) := by rw [← C.frame j hbl hnw]; exact h
        refine (C.ent.holds j blk h0).keep C.evo (fun k h => .inl (C.isub k h)) hle (fun g hg hx => ?_) (fun g hg => hnir j blk g (List.mem_of_getElem? hb) h (C.le j g hg))
        obtain ⟨c, hcw, hcg⟩ := hx
        have hcl := C.ent.dom c g hcg
        obtain ⟨blk', hca⟩ := C.wal c hcw hcl
        exact C.ent.inj j c _ _ g (by rintro rfl; exact hnw hcw) h0 hca hg hcg
      · obtain ⟨g, cs, fr, hg, hni, hw, h3, h4, h5⟩ := C.holds b blk0 h0
        have h6 := mapSeg_sound (f := frz P s.hp ids hp0.length 100) (fun c u h => frz_sound 100 c u h) (fun _ => rfl) hsub h5
        have h7 : (flat (blk0.1.map (frz P s.hp ids hp0.length 100))).length = (flat blk0.1).length := by
          have := h6.toRL.length
          rw [List.length_take, Nat.min_eq_left (by simpa using h4)] at this
          exact this.symm
        refine ⟨g, cs, fr, by rw [hμr j b hb]; exact hg, hnir b blk0 g (List.mem_of_getElem? hb) h0 hg, hw, h3, ?_, ?_⟩
        · show (flat (blk0.1.map (frz P s.hp ids hp0.length 100))).length ≤ _
          rw [h7]; exact h4
        · show CR P Ir μr w (blk0.1.map (frz P s.hp ids hp0.length 100)) (List.take (flat (blk0.1.map (frz P s.hp ids hp0.length 100))).length _)
          rw [h7]; exact h6
    · obtain ⟨b, blk0, hb, h0⟩ := hat2 j b1 h1
      obtain ⟨c, blk1, hc, h1⟩ := hat2 k b2 h2
      rw [hμr j b hb] at g1
      rw [hμr k c hc] at g2
      refine C.inj b c _ _ g (fun e => hne ?_) h0 h1 g1 g2
      subst e
      have h3 := pos_of hnd' hb
      rw [pos_of hnd' hc] at h3
      cases h3; rfl
    · cases hq : ids[j]? with
      | none => simp [μr, hq] at hg
      | some b => simpa [normSt] using (List.getElem?_eq_some_iff.1 hq).1
    · rw [hμr j j (hlow j hj)] at hg
      exact C.dom0 j g hg hj
    · exact C.evo.mono fun k hk => by
        obtain ⟨b, hb, hg⟩ := hk
        exact ⟨b, (hwr b).2 ⟨hb, C.ent.dom b k hg⟩, hg⟩
    · obtain ⟨b, blk0, hb, h0⟩ := hat2 j blk h
      rw [hμr j b hb] at hg
      rcases C.prov b (hhigh j b hj hb) blk0 h0 g hg with h | ⟨c, hcw, hcl, hcg, hca, hcn⟩
      · exact .inl h
      · exact .inr ⟨c, (hwr c).2 ⟨hcw, hcl⟩, hcl, hcg, hca, hdead c hcl hcn⟩
    · simp only [normSt, List.length_map]; exact hlen
    · have hnw : b ∉ s.wr := fun h => hn ((hwr b).2 ⟨h, hb⟩)
      simp only [normSt]
      rw [List.getElem?_map, hlow b hb]
      simp only [Option.map_some]
      rw [if_pos (by simp [hnw, hb]), ← hget b hb]
      exact C.frame b hb hnw
    · obtain ⟨blk, h⟩ := h
      obtain ⟨c, blk0, hc, h0⟩ := hat2 b blk h
      rw [hlow b hb] at hc; cases hc
      exact C.alive b hb ⟨blk0, h0⟩
    · exact C.wal b ((hwr b).1 hb).1 hb0
    · rcases hk with h | ⟨b, hbi, hbl, ⟨blk, hb⟩, hg⟩
      · rcases C.igrow k h with h | h | ⟨c, hcw, hcl, hcg, hca, hcn⟩
        · exact .inl h
        · exact .inr (.inl h)
        · exact .inr (.inr ⟨c, (hwr c).2 ⟨hcw, hcl⟩, hcl, hcg, hca, hdead c hcl hcn⟩)
      · rcases C.prov b hbl blk hb k hg with h | ⟨c, hcw, hcl, hcg, hca, hcn⟩
        · exact .inr (.inl h)
        · exact .inr (.inr ⟨c, (hwr c).2 ⟨hcw, hcl⟩, hcl, hcg, hca, hdead c hcl hcn⟩)
    · rcases hk with h | ⟨b, _, _, ⟨blk, hb⟩, hg⟩
      · exact C.ilt k h
      · exact (C.holds b blk hb).lt hg

theorem norm_weak {m : Nat} {keep ids : List Nat} {s : St} (hp : permOK m ids = true) : Weak P m s (normSt P m keep ids s) :=
  ⟨(norm_weakV hp).st, fun e _ _ _ _ C => by
    obtain ⟨I', μ', h, _⟩ := (norm_weakV (keep := keep) hp).run e C
    exact ⟨I', μ', h⟩⟩

theorem Weak.refl (m : Nat) (s : St) : Weak P m s s := ⟨fun _ _ h => h, fun _ _ _ _ _ C => ⟨_, _, C⟩⟩
theorem Weak.trans {m : Nat} {a b c : St} (h : Weak P m a b) (k : Weak P m b c) : Weak P m a c :=
  ⟨fun hp0 e hs => k.st hp0 e (h.st hp0 e hs), fun e _ _ _ _ C => by
    obtain ⟨_, _, C'⟩ := h.run e C
    exact k.run e C'⟩
/-- What is known of s is known of s', by the same names. -/
structure WeakS (P : Program) (m : Nat) (s s' : St) : Prop where
  st : ∀ hp0 : Hp, hp0.length = m → SR hp0 s → SR hp0 s'
  run : ∀ {hp0 : Hp} {I0 : Nat → Prop} {μ0 : Mu} {w0 : World}, hp0.length = m → ∀ {a : Act} {w : World} {Im : Nat → Prop} {μ : Mu}, CI P hp0 I0 μ0 w0 s a w Im μ → CI P hp0 I0 μ0 w0 s' a w Im μ
theorem WeakS.refl (m : Nat) (s : St) : WeakS P m s s := ⟨fun _ _ h => h, fun _ _ _ _ _ C => C⟩
theorem WeakS.trans {m : Nat} {a b c : St} (h : WeakS P m a b) (k : WeakS P m b c) : WeakS P m a c := ⟨fun hp0 e hs => k.st hp0 e (h.st hp0 e hs), fun e _ _ _ _ C => k.run e (h.run e C)⟩
theorem WeakS.weak {m : Nat} {a b : St} (h : WeakS P m a b) : Weak P m a b := ⟨h.st, fun e _ _ _ _ C => ⟨_, _, h.run e C⟩⟩
theorem seal_same {m b : Nat} {s : St} : WeakS P m s (sealSt m b s) := by
  generalize h : sealSt m b s = s'
  unfold sealSt at h
  split at h
  case h_2 => subst h; exact .refl m s
  case h_1 blk hb =>
  split at h
  case h_2 => subst h; exact .refl m s
  case h_1 hm h2 =>
  subst h
  have hm' : m ≤ b := Nat.le_of_ble_eq_true (by simp only [Bool.and_eq_true] at hm; exact hm.1)
  have hbl : b < s.hp.length := at_lt hb
  have hat : ∀ (k : Nat) (blk' : Blk), (s.hp.set b (some ([V.sld (flatC blk.1)], blk.2)))[k]? = some (some blk') → (k = b ∧ blk' = ([V.sld (flatC blk.1)], blk.2)) ∨ (k ≠ b ∧ s.hp[k]? = some (some blk')) := by
    intro k blk' h
    rw [List.getElem?_set] at h
    split at h
    · rename_i e
      cases h; exact .inl ⟨e.symm, rfl⟩
    · rename_i e; exact .inr ⟨fun x => e x.symm, h⟩
  have hat2 : ∀ (k : Nat) (blk' : Blk), (s.hp.set b (some ([V.sld (flatC blk.1)], blk.2)))[k]? = some (some blk') → ∃ blk0, s.hp[k]? = some (some blk0) := by
    intro k blk' h
    rcases hat k blk' h with ⟨rfl, _⟩ | ⟨_, h⟩
    · exact ⟨_, hb⟩
    · exact ⟨_, h⟩
  have hne : ∀ k, k < m → (s.hp.set b (some ([V.sld (flatC blk.1)], blk.2)))[k]? = s.hp[k]? := fun k hk => by rw [List.getElem?_set, if_neg (by omega)]
  have hdead : ∀ k : Nat, s.hp[k]? = some none → (s.hp.set b (some ([V.sld (flatC blk.1)], blk.2)))[k]? = some none := by
    intro k hk
    rw [List.getElem?_set, if_neg (by rintro rfl; rw [hb] at hk; cases hk)]
    exact hk
  constructor
  · intro hp0 e hs
    subst e
    refine ⟨by simpa using hs.len, fun k hk hn => by show (s.hp.set b _)[k]? = _; rw [hne k hk]; exact hs.frame k hk hn, fun k hk ⟨blk', hal⟩ => hs.alive k hk (hat2 k blk' hal)⟩
  · intro hp0 I0 μ0 w0 e a w Im μ C
    subst e
    refine ⟨C.tm, C.size, C.defers, fun k blk' h => ?_, fun k j b1 b2 g hkj h1 h2 g1 g2 => ?_, fun k g hg => by simpa using C.dom k g hg, C.dom0, C.evo, C.le, fun k hk blk' h g hg => ?_, by simpa using C.len, fun k hk hn => by show (s.hp.set b _)[k]? = _; rw [hne k hk]; exact C.frame k hk hn, fun k hk ⟨blk', hal⟩ => C.alive k hk (hat2 k blk' hal), C.wal, C.isub, fun k hk => ?_, C.ilt, C.ent⟩
    · rcases hat k blk' h with ⟨rfl, rfl⟩ | ⟨_, h⟩
      · obtain ⟨g, cs, fr, k1, k2, k3, k4, k5, k6⟩ := C.holds k blk hb
        have h7 := k6.nomuC h2
        have h8 : (flatC blk.1).length = (flat blk.1).length := by
          have := h7.length
          rw [List.length_take, Nat.min_eq_left (by simpa using k5)] at this
          exact this.symm
        exact .sld k1 k2 k3 k4 (by rw [h8]; exact k5) (by rw [h8]; exact h7)
      · exact C.holds k blk' h
    · obtain ⟨_, k1⟩ := hat2 k b1 h1
      obtain ⟨_, k2⟩ := hat2 j b2 h2
      exact C.inj k j _ _ g hkj k1 k2 g1 g2
    · obtain ⟨_, k1⟩ := hat2 k blk' h
      rcases C.prov k hk _ k1 g hg with h | ⟨d, h1, h2, h3, h4, h5⟩
      · exact .inl h
      · exact .inr ⟨d, h1, h2, h3, h4, hdead d h5⟩
    · rcases C.igrow k hk with h | h | ⟨d, h1, h2, h3, h4, h5⟩
      · exact .inl h
      · exact .inr (.inl h)
      · exact .inr (.inr ⟨d, h1, h2, h3, h4, hdead d h5⟩)

theorem sealAll_same {m : Nat} : ∀ (bs : List Nat) (s : St), WeakS P m s (sealAll m bs s)
  | [], s => .refl m s
  | _ :: bs, _ => seal_same.trans (sealAll_same bs _)
theorem sealAll_weak {m : Nat} (bs : List Nat) (s : St) : Weak P m s (sealAll m bs s) := (sealAll_same bs s).weak
mutual
def V.ptrs : V → List Nat
  | .ptr b _ => [b]
  | .agg cs => V.ptrsL cs
  | .tup cs => V.ptrsL cs
  | .fn _ cs => V.refsL cs
  | .box _ cs => V.refsL cs
  | _ => []
def V.ptrsL : List V → List Nat
  | [] => []
  | c :: cs => V.ptrs c ++ V.ptrsL cs
end
/-- What is kept of a state: these temporaries; these blocks, and which of them are sealed (none: what is reached; slices are sealed). -/
structure Kp where
  keep : List Nat
  perm : Option (List Nat × List Nat) := none
  wr : List Nat := []
def Kp.ids (k : Kp) (m : Nat) (s : St) : List Nat := match k.perm with
  | some p => p.1
  | none => reach s.hp 100000 (k.keep.flatMap fun i => (s.tm.get i).refs) (List.range m)
def Kp.seals (k : Kp) (m : Nat) (s : St) : List Nat := match k.perm with
  | some p => p.2
  | none => (List.range (k.ids m s).length).filter fun j => Nat.ble m j && !((k.keep.flatMap fun i => (s.tm.get i).ptrs) ++ (k.ids m s).flatMap fun b => match s.hp.getD b none with | some blk => V.ptrsL blk.1 | none => []).contains ((k.ids m s).getD j 0)
/-- The state that is kept. -/
def wrS (m : Nat) (ws : List Nat) (s : St) : St := match ws with
  | [] => s
  | _ :: _ => match (ws.all fun b => decide (b < m) && (match s.hp[b]? with | some (some _) => true | _ => false)) && s.wr.all fun b => ws.contains b with
    | true => ⟨s.tm, s.hp, ws⟩
    | false => s
theorem wrS_same {m : Nat} {ws : List Nat} {s : St} : WeakS P m s (wrS m ws s) := by
  unfold wrS
  split
  · exact .refl m s
  split
  case h_2 => exact .refl m s
  rename_i hc
  rw [Bool.and_eq_true, List.all_eq_true, List.all_eq_true] at hc
  obtain ⟨h1, h2⟩ := hc
  have hsub : ∀ b ∈ s.wr, b ∈ _ := fun b hb => by simpa only [List.contains_iff_mem] using h2 b hb
  constructor
  · intro hp0 e C
    exact ⟨C.len, fun b hb hn => C.frame b hb fun h => hn (hsub b h), C.alive⟩
  · intro hp0 I0 μ0 w0 e a w Im μ C
    subst e
    refine ⟨C.tm, C.size, C.defers, C.holds, C.inj, C.dom, C.dom0, C.evo.mono fun k ⟨b, hb, hg⟩ => ⟨b, hsub b hb, hg⟩, C.le, fun b hb blk hk g hg => ?_, C.len, fun b hb hn => C.frame b hb fun h => hn (hsub b h), C.alive, fun b hb hl => ?_, C.isub, fun k hk => ?_, C.ilt, C.ent⟩
    · rcases C.prov b hb blk hk g hg with h | ⟨c, k1, k2⟩
      · exact .inl h
      · exact .inr ⟨c, hsub c k1, k2⟩
    · have := h1 b hb
      rw [Bool.and_eq_true] at this
      refine C.alive b hl ?_
      have h3 := this.2
      split at h3
      · rename_i blk hb; exact ⟨blk, hb⟩
      · cases h3
    · rcases C.igrow k hk with h | h | ⟨c, k1, k2⟩
      · exact .inl h
      · exact .inr (.inl h)
      · exact .inr (.inr ⟨c, hsub c k1, k2⟩)
def normS (P : Program) (m : Nat) (k : Kp) (s : St) : St := wrS m k.wr (sealAll m (k.seals m s) (normSt P m k.keep (k.ids m s) s))
theorem normS_weak {m : Nat} {k : Kp} {s : St} (hp : permOK m (k.ids m s) = true) : Weak P m s (normS P m k s) := ((norm_weak hp).trans (sealAll_weak _ _)).trans wrS_same.weak

/-- Behind a call: these blocks keep their names. -/
def gc (P : Program) (m : Nat) (ids seals : List Nat) (v : V) (s : St) : Ret := ⟨V.can (frz P s.hp ids m 100 v), (sealAll m seals (normSt P m [] ids s)).hp, (sealAll m seals (normSt P m [] ids s)).wr⟩

theorem sealAll_wr {m : Nat} : ∀ (bs : List Nat) (s : St), (sealAll m bs s).wr = s.wr
  | [], s => rfl
  | b :: bs, s => by
    unfold sealAll
    rw [sealAll_wr bs]
    unfold sealSt
    split
    · split <;> rfl
    · rfl

theorem gc_sound {hp0 : Hp} {I0 Im : Nat → Prop} {μ0 μ : Mu} {w0 w : World} {s : St} {a : Act} {v : V} {val : Value} {ids seals : List Nat} (hp : permOK hp0.length ids = true) (C : CI P hp0 I0 μ0 w0 s a w Im μ) (_ : ∀ b g, μ0 b = some g → b < hp0.length) (hv : V.R P Im μ w v val) :
    ∃ μr Ir, V.R P Ir μr w (gc P hp0.length ids seals v s).v val ∧ Good P I0 Ir μ0 μr w0 w hp0 (gc P hp0.length ids seals v s).hp (List.range hp0.length) (gc P hp0.length ids seals v s).wr := by
  obtain ⟨Ir, μr, C1, hV⟩ := (norm_weakV (keep := []) hp).run rfl C
  have C' := (sealAll_same (P := P) seals (normSt P hp0.length [] ids s)).run rfl C1
  refine ⟨μr, Ir, R_can _ _ (hV _ _ hv), ⟨C'.isub, fun k hk => ?_, C'.evo, C'.le, fun b g hg => ?_, fun b _ blk h => C'.holds b blk h, fun b hb blk h g hg => ?_, fun b c b1 b2 g hne _ _ h1 h2 => C'.inj b c b1 b2 g hne h1 h2⟩⟩
  · rcases C'.igrow k hk with h | h | ⟨c, hcw, hcl, hcg, hca, hcn⟩
    · exact .inl h
    · exact .inr (.inl ⟨h, C'.ilt k hk⟩)
    · exact .inr (.inr ⟨c, hcw, hcg, hca, hcn⟩)
  · by_cases hb : b < hp0.length
    · exact .inl (C'.dom0 b g hg hb)
    · exact .inr ⟨by omega, C'.dom b g hg⟩
  · rcases C'.prov b hb blk h g hg with h | ⟨c, hcw, hcl, hcg, hca, hcn⟩
    · exact .inl h
    · exact .inr ⟨c, hcw, hcg, hca, hcn⟩
theorem gc_tidy {hp0 : Hp} {s : St} {v : V} {ids seals : List Nat} (hp : permOK hp0.length ids = true) (C : SR hp0 s) : FnTidy hp0 (gc P hp0.length ids seals v s) := by
  have C' := (sealAll_same (P := P) seals (normSt P hp0.length [] ids s)).st hp0 rfl ((norm_weakV (P := P) (keep := []) hp).st hp0 rfl C)
  exact ⟨C'.len, fun b hb hn => C'.frame b hb hn, fun b hb => by simp only [gc, sealAll_wr, normSt, List.mem_eraseDups, List.mem_filter, decide_eq_true_eq] at hb; exact hb.2, C'.alive⟩

end
end Go.Proofs.YtjgancippgpdhaaGreatDoor

namespace Go.Proofs.YtjgancippgpdhaaGreatDoor
open Go.RowKit

/-- All that is owed. -/
def All : List Prop → Prop
  | [] => True
  | p :: ps => p ∧ All ps
theorem All.append : ∀ {ps qs : List Prop}, All (ps ++ qs) → All ps ∧ All qs
  | [], _, h => ⟨trivial, h⟩
  | _ :: _, _, h => ⟨⟨h.1, (All.append h.2).1⟩, (All.append h.2).2⟩

section
variable {P : Program}

/-- From state s the code goes to s', whatever lies around; m: how many blocks came in. -/
structure SoundC (P : Program) (m : Nat) (c : Code) (s : St) (ex : Ex) (s' : St) : Prop where
  st : ∀ hp0 : Hp, hp0.length = m → SR hp0 s → SR hp0 s'
  run : ∀ {hp0 : Hp} {I0 : Nat → Prop} {μ0 : Mu} {w0 : World}, hp0.length = m → ∀ {a : Act} {w : World} {Im : Nat → Prop} {μ : Mu}, CI P hp0 I0 μ0 w0 s a w Im μ →
    ∀ {Q : Exit → Act → World → Prop}, (∀ a' w' μ' Im', CI P hp0 I0 μ0 w0 s' a' w' Im' μ' → Q ex.toExit a' w') → c.wp P Q a w

theorem SoundC.skip {m : Nat} {s : St} : SoundC P m .skip s .normal s := ⟨fun _ _ h => h, fun _ _ _ _ _ C _ hQ => wp_skip (hQ _ _ _ _ C)⟩
theorem SoundC.exit {m id : Nat} {s : St} : SoundC P m (.exit id) s (.exit id) s := ⟨fun _ _ h => h, fun _ _ _ _ _ C _ hQ => wp_exit (hQ _ _ _ _ C)⟩
theorem SoundC.ret {m : Nat} {s : St} : SoundC P m .ret s .ret s := ⟨fun _ _ h => h, fun _ _ _ _ _ C _ hQ => wp_ret (hQ _ _ _ _ C)⟩
theorem SoundC.region (hm : P.follows .mixedOrders = true) (hn : Named P) {ops : Array Oper} {m id : Nat} {draw : Bool} {s s' : St} {l : List Rec} (hl : TraceR P ops ops.toList s l s') (hd : draw = true → drawOK ops l s' = true) : SoundC P m (.region id ops draw) s .normal s' :=
  ⟨fun _ _ h => region_static hl h, fun _ _ _ _ _ C _ hQ => region_sound hm hn hl hd C hQ⟩
theorem SoundC.seq {m : Nat} {x y : Code} {s s1 s2 : St} {ex : Ex} (h : SoundC P m x s .normal s1) (k : SoundC P m y s1 ex s2) : SoundC P m (.seq x y) s ex s2 :=
  ⟨fun hp0 e hs => k.st hp0 e (h.st hp0 e hs), fun e _ _ _ _ C _ hQ => wp_seq (h.run e C fun _ _ _ _ C' => k.run e C' hQ)⟩
theorem SoundC.seq_out {m : Nat} {x y : Code} {s s1 : St} {ex : Ex} (h : SoundC P m x s ex s1) (hne : ex ≠ .normal) : SoundC P m (.seq x y) s ex s1 :=
  ⟨h.st, fun e _ _ _ _ C _ hQ => wp_seq (h.run e C fun a' w' μ' Im' C' => by
    have := hQ a' w' μ' Im' C'
    cases ex with
    | normal => exact absurd rfl hne
    | exit _ => exact this
    | ret => exact this)⟩
theorem SoundC.block_in {m id : Nat} {c : Code} {s s1 : St} (h : SoundC P m c s (.exit id) s1) : SoundC P m (.block id c) s .normal s1 :=
  ⟨h.st, fun e _ _ _ _ C _ hQ => wp_block (h.run e C fun a' w' μ' Im' C' => by
    simp only [Ex.toExit, Exit.inBlock, if_true]; exact hQ a' w' μ' Im' C')⟩
theorem SoundC.block_out {m id : Nat} {c : Code} {s s1 : St} {ex : Ex} (h : SoundC P m c s ex s1) (hne : ex ≠ .exit id) : SoundC P m (.block id c) s ex s1 :=
  ⟨h.st, fun e _ _ _ _ C _ hQ => wp_block (h.run e C fun a' w' μ' Im' C' => by
    have := hQ a' w' μ' Im' C'
    cases ex with
    | normal => exact this
    | exit i =>
      simp only [Ex.toExit, Exit.inBlock]
      rw [if_neg (fun e => hne (by rw [e]))]
      exact this
    | ret => exact this)⟩

theorem SoundC.pre {m : Nat} {c : Code} {s s0 s' : St} {ex : Ex} (h : Weak P m s s0) (k : SoundC P m c s0 ex s') : SoundC P m c s ex s' :=
  ⟨fun hp0 e hs => k.st hp0 e (h.st hp0 e hs), fun e _ _ _ _ C _ hQ => by
    obtain ⟨_, _, C'⟩ := h.run e C
    exact k.run e C' hQ⟩
theorem SoundC.post {m : Nat} {c : Code} {s s0 s' : St} {ex : Ex} (k : SoundC P m c s ex s0) (h : Weak P m s0 s') : SoundC P m c s ex s' :=
  ⟨fun hp0 e hs => h.st hp0 e (k.st hp0 e hs), fun e _ _ _ _ C _ hQ => k.run e C fun a' w' _ _ C' => by
    obtain ⟨_, _, C''⟩ := h.run e C'
    exact hQ a' w' _ _ C''⟩

/-- A loop: 'inv k' holds behind k rounds; at 'inv N' the round leaves it. -/
theorem SoundC.loop {m : Nat} {body : Code} {ex : Ex} {s' : St} (inv : Nat → St) (N : Nat) (hstep : ∀ k, k < N → SoundC P m body (inv k) .normal (inv (k + 1))) (hend : SoundC P m body (inv N) ex s') (hne : ex ≠ .normal) :
    SoundC P m (.loop body) (inv 0) ex s' := by
  have key : ∀ d k, k + d = N → (∀ hp0 : Hp, hp0.length = m → SR hp0 (inv k) → SR hp0 s') ∧
      ∀ {hp0 : Hp} {I0 : Nat → Prop} {μ0 : Mu} {w0 : World}, hp0.length = m → ∀ {a : Act} {w : World} {Im : Nat → Prop} {μ : Mu}, CI P hp0 I0 μ0 w0 (inv k) a w Im μ →
        ∀ {Q : Exit → Act → World → Prop}, (∀ a' w' μ' Im', CI P hp0 I0 μ0 w0 s' a' w' Im' μ' → Q ex.toExit a' w') → Code.rounds P body Q (d + 1) a w := by
    intro d
    induction d with
    | zero =>
      intro k hk
      obtain rfl : k = N := by omega
      refine ⟨hend.st, fun e _ _ _ _ C Q hQ => ?_⟩
      rw [rounds_succ]
      refine hend.run e C fun a' w' μ' Im' C' => ?_
      have := hQ a' w' μ' Im' C'
      cases ex with
      | normal => exact absurd rfl hne
      | exit i => exact this
      | ret => exact this
    | succ d ih =>
      intro k hk
      obtain ⟨h1, h2⟩ := ih (k + 1) (by omega)
      have hs := hstep k (by omega)
      refine ⟨fun hp0 e h => h1 hp0 e (hs.st hp0 e h), fun e _ _ _ _ C Q hQ => ?_⟩
      rw [rounds_succ]
      exact hs.run e C fun a' w' μ' Im' C' => h2 e C' hQ
  obtain ⟨h1, h2⟩ := key N 0 (by omega)
  exact ⟨h1, fun e _ _ _ _ C _ hQ => wp_loop_rounds (N + 1) (h2 e C hQ)⟩

/-- A loop that comes from s to s'. -/
inductive LoopTo (P : Program) (m : Nat) (body : Code) : St → Ex → St → Prop where
  | done {s s' : St} {ex : Ex} (h : SoundC P m body s ex s') (hne : ex ≠ .normal) : LoopTo P m body s ex s'
  | step {s s1 s' : St} {ex : Ex} (h : SoundC P m body s .normal s1) (k : LoopTo P m body s1 ex s') : LoopTo P m body s ex s'

theorem SoundC.loopTo {m : Nat} {body : Code} {s s' : St} {ex : Ex} (h : LoopTo P m body s ex s') : SoundC P m (.loop body) s ex s' := by
  have key : ∃ N, (∀ hp0 : Hp, hp0.length = m → SR hp0 s → SR hp0 s') ∧
      ∀ {hp0 : Hp} {I0 : Nat → Prop} {μ0 : Mu} {w0 : World}, hp0.length = m → ∀ {a : Act} {w : World} {Im : Nat → Prop} {μ : Mu}, CI P hp0 I0 μ0 w0 s a w Im μ →
        ∀ {Q : Exit → Act → World → Prop}, (∀ a' w' μ' Im', CI P hp0 I0 μ0 w0 s' a' w' Im' μ' → Q ex.toExit a' w') → Code.rounds P body Q N a w := by
    induction h with
    | @done s s' ex h hne =>
      refine ⟨1, h.st, fun e _ _ _ _ C Q hQ => ?_⟩
      rw [rounds_succ]
      refine h.run e C fun a' w' μ' Im' C' => ?_
      have := hQ a' w' μ' Im' C'
      cases ex with
      | normal => exact absurd rfl hne
      | exit i => exact this
      | ret => exact this
    | @step s s1 s' ex h k ih =>
      obtain ⟨N, h1, h2⟩ := ih
      refine ⟨N + 1, fun hp0 e hs => h1 hp0 e (h.st hp0 e hs), fun e _ _ _ _ C Q hQ => ?_⟩
      rw [rounds_succ]
      exact h.run e C fun a' w' μ' Im' C' => h2 e C' hQ
  obtain ⟨N, h1, h2⟩ := key
  exact ⟨h1, fun e _ _ _ _ C _ hQ => wp_loop_rounds N (h2 e C hQ)⟩


end

/-- A function's code, the body of its block of a number, that of the loop therein. -/
def bodyOf (P : Program) (f : FuncId) : Code := match P.funcs[f]? with
  | some fn => match fn.body with
    | some c => c
    | none => .skip
  | none => .skip
def findBlock (id : Nat) : Code → Option Code
  | .seq x y => match findBlock id x with
    | some c => some c
    | none => findBlock id y
  | .cond _ x y => match findBlock id x with
    | some c => some c
    | none => findBlock id y
  | .block i c => if Nat.beq i id then some c else findBlock id c
  | .loop c => findBlock id c
  | _ => none
def lp (P : Program) (f : FuncId) (id : Nat) : Code := match findBlock id (bodyOf P f) with
  | some (.loop c) => c
  | _ => .skip
def blk (P : Program) (f : FuncId) (id : Nat) : Code := match findBlock id (bodyOf P f) with
  | some c => c
  | _ => .skip

def outEx (id : Nat) : Ex → Ex
  | .exit i => if i = id then .normal else .exit i
  | e => e

/-- No function bears the name that the machine answers itself. -/
def namedB (P : Program) : Bool := P.funcs.toList.all fun fn => fn.name != "runtime.NumGoroutine"
theorem named_of {P : Program} (h : namedB P = true) : Named P := by
  intro f fn hf
  have := List.all_eq_true.1 h fn (by
    obtain ⟨hlt, e⟩ := Array.getElem?_eq_some_iff.1 hf
    rw [← e]; simp)
  simpa using this


section
variable {P : Program}

theorem SoundC.cond {m : Nat} {c : Operand} {x y : Code} {s s' : St} {ex : Ex} {b : Bool} (hb : evalV s.tm c = .bool b) (h : SoundC P m (if b then x else y) s ex s') : SoundC P m (.cond c x y) s ex s' := by
  refine ⟨h.st, fun {hp0 I0 μ0 w0} e {a w Im μ} C {Q} hQ => ?_⟩
  have hR : V.R P Im μ w (evalV s.tm c) (a.eval c) := by
    cases c with
    | tmp t => exact C.tm t
    | const v => exact R_ofValue v
    | global g => simp [evalV, V.R]
    | func f => simp [evalV, Act.eval, V.R, V.RL]
  rw [hb] at hR
  simp only [V.R] at hR
  cases b with
  | true => exact wp_cond_true hR (h.run e C hQ)
  | false => exact wp_cond_false hR (h.run e C hQ)

theorem SoundC.block {m id : Nat} {c : Code} {s s1 : St} {ex : Ex} (h : SoundC P m c s ex s1) : SoundC P m (.block id c) s (outEx id ex) s1 := by
  cases ex with
  | normal => exact h.block_out (by simp)
  | ret => exact h.block_out (by simp)
  | exit i =>
    simp only [outEx]
    split
    · rename_i e; subst e; exact h.block_in
    · rename_i e; exact h.block_out (by simpa using e)

theorem fnOK_code {f : FuncId} {fn : Func} {c : Code} {vs : List V} {hp : Hp} {ex : Ex} {s : St} {v : List V} {r : Ret} (hfn : P.funcs[f]? = some fn) (hc : fn.body = some c)
    (h : SoundC P hp.length c ⟨Tm.start (vs.length + (fn.ntmps - vs.length)) vs, hp, []⟩ ex s) (hex : ex = .normal ∨ ex = .ret) (hres : evResultL P s.hp s.tm fn.results.toList = some v)
    {ids seals : List Nat} (hids : permOK hp.length ids = true) (hr : gc P hp.length ids seals (oneOf v) s = r) : FnOK P f vs hp r := by
  subst hr
  have hst : SR hp s := h.st hp rfl ⟨Nat.le_refl _, fun _ _ _ => rfl, fun _ _ h => h⟩
  refine ⟨gc_tidy hids hst, fun I w μ vals hvals pre hdom => ?_⟩
  have hh : ∀ b blk, hp[b]? = some (some blk) → Holds P I μ w b blk := fun b blk hb => pre.holds b (by simpa using at_lt hb) blk hb
  have hinj : ∀ b c blk blk' g, b ≠ c → hp[b]? = some (some blk) → hp[c]? = some (some blk') → μ b = some g → μ c = some g → False := fun b c b1 b2 g hne hb hc => pre.inj b (by simpa using at_lt hb) c (by simpa using at_lt hc) b1 b2 g hne hb hc
  have hvl := hvals.length
  simp at hvl
  have C0 : CI P hp I μ w ⟨Tm.start (vs.length + (fn.ntmps - vs.length)) vs, hp, []⟩ { tmps := vals ++ Array.replicate (fn.ntmps - vals.size) undef, defers := [] } w I μ := by
    refine ⟨fun t => ?_, by simp [hvl, Tm.start, Tm.fill_n], rfl, hh, hinj, hdom, fun b g hg _ => hg, .refl _ _, .refl _, fun b hb blk hblk => ?_, Nat.le_refl _, fun _ _ _ => rfl, fun _ _ h => h, by simp, .refl _, fun k h => .inl h, pre.ilt, ⟨hh, hinj, hdom⟩⟩
    · rcases Tm.start_get (vs.length + (fn.ntmps - vs.length)) vs t with e | e
      · show V.R P I μ w ((Tm.start (vs.length + (fn.ntmps - vs.length)) vs).get t) _
        rw [e]; simp [V.R]
      · have ht : t < vs.length := (List.getElem?_eq_some_iff.1 e).1
        obtain ⟨u, hu, hR⟩ := hvals.get e
        rw [Array.getElem?_toList] at hu
        rw [Array.getD_eq_getD_getElem?, Array.getElem?_append, if_pos (by omega), hu]
        exact hR
    · have := at_lt (hp := hp) hblk; omega
  refine calls_of_wp hfn hc ?_
  refine h.run rfl C0 fun a' w' μ' Im' C => ?_
  obtain ⟨val, hr, hR⟩ := results_sound (fn := fn) C.tm C.holds C.ilt C.inj hres
  obtain ⟨μr, Ir, hR', hG⟩ := gc_sound hids C hdom hR
  rcases hex with rfl | rfl
  · exact ⟨C.defers, val, hr, val, μr, Ir, rfl, hR', hG⟩
  · exact ⟨C.defers, val, hr, val, μr, Ir, rfl, hR', hG⟩


end
end Go.Proofs.YtjgancippgpdhaaGreatDoor

namespace Go.Proofs.YtjgancippgpdhaaGreatDoor
open Go.RowKit

/-- Elements of a type, laid out one behind the other. -/
def encs {α : Type} (enc : α → List V) (L : List α) : List V := L.flatMap enc
open Classical in
/-- What a row of cells is the layout of. -/
noncomputable def decL {α : Type} (enc : α → List V) (cs : List V) : List α := if h : ∃ L, encs enc L = cs then h.choose else []

/-- How an element reads: type, cells, place. -/
abbrev Vw := TypeId → List V → Nat → Option (List V)

/-- What an operation comes to. -/
inductive SO where
  | one (ps : List Prop) (o : Out)
  | two (c : Bool) (ps : List Prop) (o : Out) (qs : List Prop) (o' : Out)
  | no

def SO.OK (r : Option Out) : SO → Prop
  | .one ps o => All ps → r = some o
  | .two c ps o qs o' => (c = true → All ps → r = some o) ∧ (c = false → All qs → r = some o')
  | .no => True

def ofOpt : Option Out → SO
  | some o => .one [] o
  | none => .no
theorem ofOpt_ok (r : Option Out) : (ofOpt r).OK r := by
  cases r with
  | none => trivial
  | some o => exact fun _ => rfl

def sIndexAddr (P : Program) (vw : Vw) (hp : Hp) (t : TypeId) (x i : V) : SO :=
  match x, i, P.underlying t with
  | .dsl n _ cs, .int _ k, some (.slice el) => match szOf P el, vw el cs k.toNat with
    | some s, some v => .one [0 ≤ k ∧ k < n, (cs.drop (k.toNat * s)).take v.length = v] ⟨.dptr (v ++ cs.drop (k.toNat * s + v.length)), hp, [], []⟩
    | some s, none => .one [0 ≤ k ∧ k < n] ⟨.dptr (cs.drop (k.toNat * s)), hp, [], []⟩
    | _, _ => .no
  | .sl b off n _, .int _ k, some (.slice el) => match szOf P el with
    | some s => .one [0 ≤ k ∧ k < n] ⟨.ptr b (off + k.toNat * s), hp, [], []⟩
    | none => .no
  | _, _, _ => .no

def sIndex (P : Program) (hp : Hp) (t : TypeId) (x i : V) : SO :=
  match x, i, P.underlying t with
  | .str l, .int _ k, some .string => .one [0 ≤ k ∧ k < l.length] ⟨.int .u8 ((l.getD k.toNat 0).toNat : Nat), hp, [], []⟩
  | _, _, _ => .no

/-- A bound: what is owed, and the number. -/
def sBound (x : Option V) (d lim : Nat) : Option (List Prop × Nat) :=
  match x with
  | none => some ([], d)
  | some (.int _ i) => some ([0 ≤ i ∧ i ≤ lim], i.toNat)
  | _ => none

def sSlice (P : Program) (hp : Hp) (t : TypeId) (x : V) (lo hi mx : Option V) : SO :=
  match x, mx with
  | .str l, none =>
    match P.underlying t, sBound hi l.length l.length with
    | some .string, some (ps, h) => match sBound lo 0 h with
      | some (qs, k) => .one (ps ++ qs) ⟨.str ((l.take h).drop k), hp, [], []⟩
      | none => .no
    | _, _ => .no
  | .dsl n full cs, none =>
    match P.underlying t, sBound hi n n with
    | some (.slice e), some (ps, h) => match sBound lo 0 h, szOf P e with
      | some (qs, k), some s => .one (ps ++ qs) ⟨.dsl (h - k) (full && h == n) ((cs.take (h * s)).drop (k * s)), hp, [], []⟩
      | _, _ => .no
    | _, _ => .no
  | .sl b off n full, none =>
    match P.underlying t, sBound hi n n, hp[b]? with
    | some (.slice e), some (ps, h), some (some blk) => match sBound lo 0 h, szOf P e, blk.2 == e with
      | some (qs, k), some s, true =>
        match lo with
        | none => .one (ps ++ qs) ⟨.sl b off h (full && h == n), hp, [b], []⟩
        | some _ => .two (decide (k < h)) (ps ++ qs) ⟨.sl b (off + k * s) (h - k) (full && h == n), hp, [b], []⟩ (ps ++ qs) ⟨.dsl 0 (full && h == n) [], hp, [b], []⟩
      | _, _, _ => .no
    | _, _, _ => .no
  | .dsl n _ cs, some m =>
    match P.underlying t, sBound (some m) 0 n, hi with
    | some (.slice e), some (ps, m), some hi => match sBound (some hi) 0 m with
      | some (qs, h) => match sBound lo 0 h, szOf P e with
        | some (rs, k), some s => .one (ps ++ qs ++ rs) ⟨.dsl (h - k) (m == h) ((cs.take (h * s)).drop (k * s)), hp, [], []⟩
        | _, _ => .no
      | none => .no
    | _, _, _ => .no
  | x, mx => ofOpt (evSlice P hp t x lo hi mx)

/-- What is appended. -/
def sSrc (hp : Hp) (size : Nat) : V → Option (List Prop × List Nat × Nat × List V)
  | .dsl m _ cs => some ([cs.length = m * size, cs.all V.one = true], [], m, [.sld cs])
  | .sl b off m full =>
    match hp[b]? with
    | some (some blk) => match hasSeal blk.1 with
      | true => some ([off = 0, (flat blk.1).length = m * size, (flat blk.1).all V.one = true], [b], m, blk.1)
      | false => match srcV hp size (.sl b off m full) with
        | some (bs, m, news) => some ([], bs, m, news)
        | none => none
    | _ => none
  | _ => none

def sAppend (P : Program) (hp : Hp) (t t' : TypeId) (s x : V) : SO :=
  match P.underlying t with
  | some (.slice elem) =>
    match P.info? elem with
    | some i =>
      match i.zero, t == t' with
      | some z, true =>
        match decide (0 < i.size ∧ z.cells.size = i.size), sSrc hp i.size x with
        | true, some (ps, bs, m, news) =>
          match s with
          | .sl b off n _ =>
            match hp[b]? with
            | some (some blk) =>
              match blk.2 == elem with
              | true => .one (ps ++ [off = 0, (flat blk.1).length = n * i.size, n + m ≤ maxLen, (n + m) * i.bytes ≤ 140737488355328])
                  ⟨.sl hp.length 0 (n + m) false, hp.set b none ++ [some (blk.1 ++ news, elem)], b :: bs, [b]⟩
              | false => .no
            | _ => .no
          | .dsl n full cs =>
            .two (m == 0) ps ⟨.dsl n full cs, hp, bs, []⟩ (ps ++ [full = true, cs.length = n * i.size, n + m ≤ maxLen, (n + m) * i.bytes ≤ 140737488355328])
              ⟨.sl hp.length 0 (n + m) false, hp ++ [some (.sld cs :: news, elem)], bs, []⟩
          | _ => .no
        | _, _ => .no
      | _, _ => .no
    | none => .no
  | _ => .no

/-- One-level struct equality. -/
def sEqs (P : Program) (xs ys : List V) : List Field → Option Bool
  | [] => some true
  | f :: fs =>
    match f.name == "_", xs[f.offset]?, ys[f.offset]? with
    | false, some x, some y =>
      match flatEq P f x y, sEqs P xs ys fs with
      | some a, some b => some (a && b)
      | _, _ => none
    | _, _, _ => none

def sBin (P : Program) (hp : Hp) (op : BinOp) (t : TypeId) (x y : V) : SO :=
  match x, y with
  | .str a, .str b => match op with
    | .add => .one [a.length + b.length ≤ 4611686018427387904] ⟨.str (a ++ b), hp, [], []⟩
    | op => ofOpt ((evStr op a b).map fun v => ⟨v, hp, [], []⟩)
  | .int k a, .int k' b => match op with
    | .quo => match decide (k = k') with
      | true => .one [b ≠ 0] ⟨.int k (k.wrap (a.tdiv b)), hp, [], []⟩
      | false => .no
    | .rem => match decide (k = k') with
      | true => .one [b ≠ 0] ⟨.int k (a.tmod b), hp, [], []⟩
      | false => .no
    | op => ofOpt ((evBin P op t (.int k a) (.int k' b)).map fun v => ⟨v, hp, [], []⟩)
  | .agg xs, .agg ys => match P.underlying t, P.stoodInHeld t, P.eqGuardType P.depth t, op with
    | some (.struct fs), false, false, .eql => match sEqs P xs ys fs.toList with
      | some r => .one [] ⟨.bool r, hp, [], []⟩
      | none => .no
    | some (.struct fs), false, false, .neq => match sEqs P xs ys fs.toList with
      | some r => .one [] ⟨.bool (!r), hp, [], []⟩
      | none => .no
    | _, _, _, _ => .no
  | x, y => ofOpt ((evBin P op t x y).map fun v => ⟨v, hp, [], []⟩)

def encByte (b : UInt8) : List V := [.int .u8 (b.toNat : Nat)]
def byts (l : List UInt8) : List V := l.map fun b => V.int .u8 (b.toNat : Nat)

/-- The bytes that pieces hold, and what is owed. -/
noncomputable def bytesSeg : List V → Option (List Prop × List UInt8)
  | [] => some ([], [])
  | x :: t => match x, bytesSeg t with
    | .sld c, some (ps, l) => some ((c = byts (decL encByte c)) :: ps, decL encByte c ++ l)
    | .int .u8 n, some (ps, l) => some ((0 ≤ n ∧ n < 256) :: ps, UInt8.ofNat n.toNat :: l)
    | _, _ => none

noncomputable def sConv (P : Program) (hp : Hp) (s d : TypeId) (x : V) : SO :=
  match x with
  | .dsl n _ cs => match P.underlying s, P.underlying d with
    | some (.slice e), some .string => match P.underlying e with
      | some (.int .u8) => .one [cs = byts (decL encByte cs), (decL encByte cs).length = n] ⟨.str (decL encByte cs), hp, [], []⟩
      | _ => .no
    | _, _ => .no
  | .sl b off n _ => match P.underlying s, P.underlying d with
    | some (.slice e), some .string => match P.underlying e, hp[b]? with
      | some (.int .u8), some (some blk) => match bytesSeg blk.1 with
        | some (ps, l) => .one (ps ++ [off = 0, l.length = n]) ⟨.str l, hp, [b], []⟩
        | none => .no
      | _, _ => .no
    | _, _ => .no
  | .str l => match P.underlying s, P.underlying d with
    | some .string, some (.slice e) => match P.underlying e, P.info? e with
      | some (.int .u8), some i => match decide (i.size = 1) with
        | true => .one [l.length ≤ maxLen] ⟨.sl hp.length 0 l.length false, hp ++ [some ([.sld (byts l)], e)], [], []⟩
        | false => .no
      | _, _ => .no
    | _, _ => ofOpt (evConv P hp s d (.str l))
  | x => ofOpt (evConv P hp s d x)

def sMake (P : Program) (hp : Hp) (t : TypeId) (l c : V) : SO :=
  match l, c with
  | .int _ l, .int _ c =>
    match P.underlying t with
    | some (.slice elem) =>
      match P.info? elem with
      | some i =>
        match i.zero with
        | some z =>
          match decide (i.bytes ≤ 1048576 ∧ 0 < i.size ∧ z.cells.size = i.size) with
          | true => .one [0 ≤ l ∧ l ≤ c ∧ c ≤ 1048576] ⟨.sl hp.length 0 l.toNat (l == c), hp ++ [some ([.sld (zeros (z.cells.toList.map ofScalar) (c.toNat * i.size))], elem)], [], []⟩
          | false => .no
        | none => .no
      | none => .no
    | _ => .no
  | _, _ => .no

def sLoad (P : Program) (vw : Vw) (hp : Hp) (t : TypeId) (x : V) : SO :=
  match x with
  | .ptr b o => match hp[b]? with
    | some (some blk) => match hasSeal blk.1 with
      | true => match P.underlying t, szOf P t with
        | some d, some s => match vw t (flat blk.1) (o / s) with
          | some v => match v.length == s, rowD d, v with
            | true, true, v => .one [((flat blk.1).drop o).take s = v] ⟨.agg v, hp, [b], []⟩
            | true, false, [c] => .one [((flat blk.1).drop o).take s = [c]] ⟨c, hp, [b], []⟩
            | _, _, _ => .no
          | none => ofOpt (evLoad P hp t (.ptr b o))
        | _, _ => .no
      | false => ofOpt (evLoad P hp t (.ptr b o))
    | _ => .no
  | x => ofOpt (evLoad P hp t x)

def sStore (P : Program) (hp : Hp) (t : TypeId) (x y : V) : SO :=
  match x with
  | .ptr b o => match hp[b]? with
    | some (some blk) => match hasSeal blk.1 with
      | true => match szOf P t with
        | some s => match y.flat, decide ((cellsV y).length = s), (cellsV y).all V.one, V.refsL blk.1 with
          | true, true, true, [] => .one [o + s ≤ (flat blk.1).length] ⟨.junk, hp.set b (some (.sld ((flat blk.1).take o) :: (cellsV y ++ [.sld ((flat blk.1).drop (o + s))]), blk.2)), [b], [b]⟩
          | _, _, _, _ => .no
        | none => .no
      | false => ofOpt (evStore P hp t (.ptr b o) y)
    | _ => .no
  | x => ofOpt (evStore P hp t x y)

noncomputable def evOpS (P : Program) (vw : Vw) (e : Operand → V) (hp : Hp) : Op → SO
  | .indexAddr t x i => sIndexAddr P vw hp t (e x) (e i)
  | .index t x i => sIndex P hp t (e x) (e i)
  | .slice t x lo hi mx => sSlice P hp t (e x) (lo.map e) (hi.map e) (mx.map e)
  | .binOp op t x y _ => sBin P hp op t (e x) (e y)
  | .convert s d x => sConv P hp s d (e x)
  | .makeSlice t l c => sMake P hp t (e l) (e c)
  | .load t x => sLoad P vw hp t (e x)
  | .store t x y => sStore P hp t (e x) (e y)
  | .pick c a b => match e c with
    | .bool t => .two t [] ⟨e a, hp, [], []⟩ [] ⟨e b, hp, [], []⟩
    | _ => .no
  | .call c => match c.callee, c.args.toList, c.argTypes.toList with
    | .builtin .append, [s, x], [t, t'] => sAppend P hp t t' (e s) (e x)
    | _, _, _ => ofOpt (evPlain P e hp (.call c))
  | op => ofOpt (evPlain P e hp op)

def sCopy (P : Program) (hp : Hp) (t : TypeId) (s x : V) : SO :=
  match P.underlying t with
  | some (.slice elem) =>
    match P.info? elem, s with
    | some i, .sl b off n _ =>
      match hp[b]?, srcV hp i.size x with
      | some (some blk), some (bs, m, news) =>
        match decide (0 < m ∧ 0 < i.size), spliceV blk.1 off (m * i.size) (flat news) with
        | true, some l => .one [m ≤ n, off + m * i.size ≤ (flat blk.1).length] ⟨.int .i64 m, hp.set b (some (l, blk.2)), b :: bs, [b]⟩
        | _, _ => .no
      | _, _ => .no
    | _, _ => .no
  | _ => .no
def sArr (P : Program) (hp : Hp) (t : TypeId) (x i : V) : SO :=
  match P.underlying t, x, i with
  | some (.array n el), .ptr b off, .int _ i => match szOf P el with
    | some s => .one [0 ≤ i ∧ i < n] ⟨.ptr b (off + i.toNat * s), hp, [], []⟩
    | none => .no
  | _, _, _ => .no
/-- What evOpS does not do. -/
def sMore (P : Program) (e : Operand → V) (hp : Hp) : Op → SO
  | .indexAddr t x i => sArr P hp t (e x) (e i)
  | .call c => match c.callee, c.args.toList, c.argTypes.toList with
    | .builtin .copy, [s, x], [t, _] => sCopy P hp t (e s) (e x)
    | _, _, _ => ofOpt (evMore P e hp (.call c))
  | op => ofOpt (evMore P e hp op)

section
variable {P : Program} {vw : Vw} {hp : Hp}

theorem take_len {α : Type} {cs v : List α} {k : Nat} (h : (cs.drop k).take v.length = v) : cs.drop k = v ++ cs.drop (k + v.length) := by
  conv => lhs; rw [← List.take_append_drop v.length (cs.drop k)]
  rw [h, List.drop_drop]

theorem sBound_ok {x : Option V} {d lim : Nat} {ps : List Prop} {k : Nat} (h : sBound x d lim = some (ps, k)) (ha : All ps) : evBound x d lim = some k := by
  unfold sBound at h
  split at h
  · cases h; rfl
  · cases h
    simp only [evBound]
    rw [if_pos ha.1]
  · cases h

theorem sIndexAddr_ok {e : Operand → V} {t : TypeId} {x i : Operand} : (sIndexAddr P vw hp t (e x) (e i)).OK (evPlain P e hp (.indexAddr t x i)) := by
  generalize h : sIndexAddr P vw hp t (e x) (e i) = so
  unfold sIndexAddr at h
  split at h
  · rename_i n full cs kk k el hx hi hu
    split at h
    · rename_i s v hs hv
      subst h; intro ha
      simp only [evPlain, hx, hi, hu, hs]
      rw [if_pos ha.1, take_len ha.2.1]
    · rename_i s hs hv
      subst h; intro ha
      simp only [evPlain, hx, hi, hu, hs]
      rw [if_pos ha.1]
    · subst h; trivial
  · rename_i b off n full kk k el hx hi hu
    split at h
    · rename_i s hs
      subst h; intro ha
      simp only [evPlain, hx, hi, hu, hs]
      rw [if_pos ha.1]
    · subst h; trivial
  · subst h; trivial

theorem sIndex_ok {e : Operand → V} {t : TypeId} {x i : Operand} : (sIndex P hp t (e x) (e i)).OK (evPlain P e hp (.index t x i)) := by
  generalize h : sIndex P hp t (e x) (e i) = so
  unfold sIndex at h
  split at h
  · rename_i l kk k hx hi hu
    subst h; intro ha
    obtain ⟨⟨h1, h2⟩, _⟩ := ha
    simp only [evPlain, hx, hi, evIndex, hu]
    rw [if_pos h1, List.getElem?_eq_getElem (by omega)]
    simp only [Option.map_some]
    rw [List.getD_eq_getElem?_getD, List.getElem?_eq_getElem (by omega)]
    rfl
  · subst h; trivial

theorem sSlice_ok {t : TypeId} {x : V} {lo hi mx : Option V} : (sSlice P hp t x lo hi mx).OK (evSlice P hp t x lo hi mx) := by
  generalize h : sSlice P hp t x lo hi mx = so
  unfold sSlice at h
  split at h
  · split at h
    · rename_i hu hh
      split at h
      · rename_i hk
        subst h; intro ha
        obtain ⟨h1, h2⟩ := All.append ha
        simp only [evSlice, hu, sBound_ok hh h1, sBound_ok hk h2]
      · subst h; trivial
    · subst h; trivial
  · split at h
    · rename_i hu hh
      split at h
      · rename_i hk hs
        subst h; intro ha
        obtain ⟨h1, h2⟩ := All.append ha
        simp only [evSlice, hu, sBound_ok hh h1, sBound_ok hk h2, hs]
      · subst h; trivial
    · subst h; trivial
  · split at h
    · rename_i hu hh hb
      split at h
      · rename_i hk hs he
        split at h
        · subst h; intro ha
          obtain ⟨h1, h2⟩ := All.append ha
          simp only [evSlice, hu, sBound_ok hh h1, sBound_ok hk h2, hs, hb, he]
        · subst h; refine ⟨fun hc ha => ?_, fun hc ha => ?_⟩
          · obtain ⟨h1, h2⟩ := All.append ha
            simp only [evSlice, hu, sBound_ok hh h1, sBound_ok hk h2, hs, hb, he]
            rw [if_pos (by simpa using hc)]
          · obtain ⟨h1, h2⟩ := All.append ha
            simp only [evSlice, hu, sBound_ok hh h1, sBound_ok hk h2, hs, hb, he]
            rw [if_neg (by simpa using hc)]
      · subst h; trivial
    · subst h; trivial
  · split at h
    · rename_i hu hm
      split at h
      · rename_i hh
        split at h
        · rename_i hk hs
          subst h; intro ha
          obtain ⟨h12, h3⟩ := All.append ha
          obtain ⟨h1, h2⟩ := All.append h12
          simp only [evSlice, hu, sBound_ok hm h1, sBound_ok hh h2, sBound_ok hk h3, hs]
        · subst h; trivial
      · subst h; trivial
    · subst h; trivial
  · subst h; exact ofOpt_ok _

theorem flat_sealed (c : List V) : flat [.sld c] = c := by simp [flat]

theorem sSrc_ok {size : Nat} {x : V} {ps : List Prop} {bs : List Nat} {m : Nat} {news : List V} (h : sSrc hp size x = some (ps, bs, m, news)) (ha : All ps) : srcV hp size x = some (bs, m, news) := by
  unfold sSrc at h
  split at h
  · cases h
    obtain ⟨h1, h2, _⟩ := ha
    have e : ∀ cs : List V, cs.length = m * size → cs.take (m * size) = cs := fun cs h => List.take_of_length_le (by omega)
    simp only [srcV]
    rw [e _ h1, if_pos ⟨h1, h2⟩]
  · rename_i b off m' full
    split at h
    · rename_i blk hb
      split at h
      · cases h
        obtain ⟨h1, h2, h3, _⟩ := ha
        subst h1
        unfold srcV
        have e : ((flat blk.1).drop 0).take (m * size) = flat blk.1 := by rw [List.drop_zero, List.take_of_length_le (by omega)]
        simp only [hb]
        rw [e, if_pos ⟨h2, h3⟩]
        unfold cutV
        rw [if_pos ⟨rfl, h2⟩]
      · split at h
        · rename_i hs; cases h; exact hs
        · cases h
    · cases h
  · cases h

theorem sAppend_ok {t t' : TypeId} {s x : V} : (sAppend P hp t t' s x).OK (evAppend P hp t t' s x) := by
  generalize h : sAppend P hp t t' s x = so
  unfold sAppend at h
  split at h
  · rename_i elem hu
    split at h
    · rename_i i hi
      split at h
      · rename_i z hz ht
        split at h
        · rename_i ps bs m news hc hs
          have hc' := of_decide_eq_true hc
          split at h
          · rename_i b off n full
            split at h
            · rename_i blk hb
              split at h
              · rename_i he
                subst h; intro ha
                obtain ⟨h1, h2⟩ := All.append ha
                obtain ⟨h3, h4, h5, h6, _⟩ := h2
                subst h3
                unfold evAppend
                simp only [hu, hi, hz, ht, sSrc_ok hs h1, hb]
                have e : ((flat blk.1).drop 0).take (n * i.size) = flat blk.1 := by rw [List.drop_zero, List.take_of_length_le (by omega)]
                rw [if_pos hc', e, if_pos ⟨h4, h5, h6, eq_of_beq he, trivial⟩]
                unfold cutV
                rw [if_pos ⟨rfl, h4⟩]
              · subst h; trivial
            · subst h; trivial
          · rename_i n full cs
            subst h; refine ⟨fun hm ha => ?_, fun hm ha => ?_⟩
            · have hm' : m = 0 := by simpa using hm
              subst hm'
              unfold evAppend
              simp only [hu, hi, hz, ht, sSrc_ok hs ha]
              rw [if_pos hc']
            · obtain ⟨h1, h2⟩ := All.append ha
              obtain ⟨h3, h4, h5, h6, _⟩ := h2
              have hm' : m ≠ 0 := by simpa using hm
              obtain ⟨m', rfl⟩ := Nat.exists_eq_succ_of_ne_zero hm'
              unfold evAppend
              simp only [hu, hi, hz, ht, sSrc_ok hs h1]
              have e : cs.take (n * i.size) = cs := List.take_of_length_le (by omega)
              rw [if_pos hc', e, if_pos ⟨h3, h4, h5, h6⟩]
          · subst h; trivial
        · subst h; trivial
      · subst h; trivial
    · subst h; trivial
  · subst h; trivial

theorem sEqs_ok {xs ys : List V} : ∀ {fs : List Field} {r : Bool}, sEqs P xs ys fs = some r → flatEqs P xs ys fs = some r
  | [], _, h => h
  | f :: fs, r, h => by
    unfold sEqs at h
    split at h
    · rename_i x y hn hx hy
      split at h
      · rename_i a b ha hb
        cases h
        unfold flatEqs
        have hn' : f.name ≠ "_" := by simpa using hn
        rw [if_neg hn', hx, hy]
        simp only [ha]
        cases a with
        | true => simpa using sEqs_ok hb
        | false => rfl
      · cases h
    · cases h

theorem sBin_ok {op : BinOp} {t : TypeId} {x y : V} : (sBin P hp op t x y).OK ((evBin P op t x y).map fun v => ⟨v, hp, [], []⟩) := by
  generalize h : sBin P hp op t x y = so
  unfold sBin at h
  split at h
  · split at h
    · subst h; intro ha
      simp only [evBin, evStr]
      rw [if_pos ha.1]; rfl
    · subst h; exact ofOpt_ok _
  · split at h
    · split at h
      · rename_i hk
        have hk' := of_decide_eq_true hk
        subst h; intro ha
        simp only [evBin, evInt]
        rw [if_pos hk', if_neg ha.1]; rfl
      · subst h; trivial
    · split at h
      · rename_i hk
        have hk' := of_decide_eq_true hk
        subst h; intro ha
        simp only [evBin, evInt]
        rw [if_pos hk', if_neg ha.1]; rfl
      · subst h; trivial
    · subst h; exact ofOpt_ok _
  · split at h
    · rename_i fs hu h1 h2
      split at h
      · rename_i r hr
        subst h; intro _
        simp only [evBin, hu, h1, h2, sEqs_ok hr, Option.map_some]
      · subst h; trivial
    · rename_i fs hu h1 h2
      split at h
      · rename_i r hr
        subst h; intro _
        simp only [evBin, hu, h1, h2, sEqs_ok hr, Option.map_some]
      · subst h; trivial
    · subst h; trivial
  · subst h; exact ofOpt_ok _

theorem bytesV_byts : ∀ l : List UInt8, bytesV (byts l) = some l
  | [] => rfl
  | b :: l => by
    have ih := bytesV_byts l
    simp only [byts, List.map_cons, bytesV] at ih ⊢
    rw [if_pos ⟨by omega, by have := b.toNat_lt; omega⟩, ih]
    simp

theorem bytesSeg_ok : ∀ {l : List V} {ps : List Prop} {bs : List UInt8}, bytesSeg l = some (ps, bs) → All ps → flat l = byts bs
  | [], _, _, h, _ => by cases h; rfl
  | x :: t, _, _, h, ha => by
    unfold bytesSeg at h
    split at h
    · rename_i c ps l ht
      cases h
      rw [flat_seal, bytesSeg_ok ht ha.2]
      have := ha.1
      rw [show byts (decL encByte c ++ l) = byts (decL encByte c) ++ byts l by simp [byts], ← this]
    · rename_i n ps l ht
      cases h
      rw [flat_cons (fun c e => by cases e), bytesSeg_ok ht ha.2]
      obtain ⟨h0, h1⟩ := ha.1
      have e : ((UInt8.ofNat n.toNat).toNat : Int) = n := by
        rw [UInt8.toNat_ofNat']; omega
      simp only [byts, List.map_cons, e]
    · cases h

theorem sConv_ok {s d : TypeId} {x : V} : (sConv P hp s d x).OK (evConv P hp s d x) := by
  generalize h : sConv P hp s d x = so
  unfold sConv at h
  split at h
  · rename_i n full cs
    split at h
    · rename_i e hs hd
      split at h
      · rename_i he
        subst h; intro ha
        obtain ⟨h1, h2, _⟩ := ha
        simp only [evConv, hs, hd, he]
        generalize hl : decL encByte cs = l at h1 h2
        subst h1
        have hlen : (byts l).length = n := by simpa [byts] using h2
        have e1 : (byts l).take n = byts l := List.take_of_length_le (by omega)
        rw [e1, if_pos hlen, bytesV_byts]
      · subst h; trivial
    · subst h; trivial
  · rename_i b off n full
    split at h
    · rename_i e hs hd
      split at h
      · rename_i blk he hb
        split at h
        · rename_i ps l hl
          subst h; intro ha
          obtain ⟨h0, h1, h2, _⟩ := All.append ha
          subst h1
          have hf := bytesSeg_ok hl h0
          simp only [evConv, hs, hd, he, hb]
          have hlen : (byts l).length = n := by simpa [byts] using h2
          rw [hf, List.drop_zero]
          have e1 : (byts l).take n = byts l := List.take_of_length_le (by omega)
          rw [e1, if_pos hlen, bytesV_byts]
        · subst h; trivial
      · subst h; trivial
    · subst h; trivial
  · rename_i l
    split at h
    · rename_i e hs hd
      split at h
      · rename_i i he hi
        split at h
        · rename_i hz
          subst h; intro ha
          simp only [evConv, hs, hd, he, hi]
          rw [if_pos ⟨ha.1, of_decide_eq_true hz⟩]
          rfl
        · subst h; trivial
      · subst h; trivial
    · subst h; exact ofOpt_ok _
  · subst h; exact ofOpt_ok _

theorem sMake_ok {t : TypeId} {l c : V} : (sMake P hp t l c).OK (evMakeSlice P hp t l c) := by
  generalize h : sMake P hp t l c = so
  unfold sMake at h
  split at h
  · split at h
    · rename_i elem hu
      split at h
      · rename_i i hi
        split at h
        · rename_i z hz
          split at h
          · rename_i hc
            have hc' := of_decide_eq_true hc
            subst h; intro ha
            obtain ⟨⟨h1, h2, h3⟩, _⟩ := ha
            simp only [evMakeSlice, hu, hi, hz]
            rw [if_pos ⟨h1, h2, h3, hc'⟩]
          · subst h; trivial
        · subst h; trivial
      · subst h; trivial
    · subst h; trivial
  · subst h; trivial

theorem sLoad_ok {t : TypeId} {x : V} : (sLoad P vw hp t x).OK (evLoad P hp t x) := by
  generalize h : sLoad P vw hp t x = so
  unfold sLoad at h
  split at h
  · rename_i b o
    split at h
    · rename_i blk hb
      split at h
      · split at h
        · rename_i d s hu hs
          split at h
          · rename_i v hv
            split at h
            · rename_i hl hr
              subst h; intro ha
              obtain ⟨h1, _⟩ := ha
              simp only [evLoad, hb, hu, hs, hl]
              rw [h1, if_pos (by simpa using hr)]
            · rename_i c hl hr
              subst h; intro ha
              obtain ⟨h1, _⟩ := ha
              have hl' : 1 = s := by simpa using hr
              subst hl'
              simp only [evLoad, hb, hu, hs, hl]
              have : (flat blk.1)[o]? = some c := by
                have h2 : (((flat blk.1).drop o).take 1)[0]? = some c := by rw [h1]; rfl
                rw [List.getElem?_take, if_pos (by omega), List.getElem?_drop] at h2
                simpa using h2
              rw [this]
            · subst h; trivial
          · subst h; exact ofOpt_ok _
        · subst h; trivial
      · subst h; exact ofOpt_ok _
    · subst h; trivial
  · subst h; exact ofOpt_ok _

theorem sStore_ok {t : TypeId} {x y : V} : (sStore P hp t x y).OK (evStore P hp t x y) := by
  generalize h : sStore P hp t x y = so
  unfold sStore at h
  split at h
  · rename_i b o
    split at h
    · rename_i blk hb
      split at h
      · rename_i hseal
        split at h
        · rename_i s hs
          split at h
          · rename_i h1 h2 h3 h4
            subst h; intro ha
            obtain ⟨h5, _⟩ := ha
            simp only [evStore, hb, hs]
            rw [if_pos ⟨h1, of_decide_eq_true h2, h3, h5⟩]
            simp only [spliceV, hseal, h4]
          · subst h; trivial
        · subst h; trivial
      · subst h; exact ofOpt_ok _
    · subst h; trivial
  · subst h; exact ofOpt_ok _

theorem opS_ok {e : Operand → V} (op : Op) : (evOpS P vw e hp op).OK (evPlain P e hp op) := by
  unfold evOpS
  split
  · exact sIndexAddr_ok
  · exact sIndex_ok
  · exact sSlice_ok
  · exact sBin_ok
  · exact sConv_ok
  · exact sMake_ok
  · exact sLoad_ok
  · exact sStore_ok
  · rename_i c a b
    cases hc : e c with
    | bool t => exact ⟨fun h _ => by simp only [evPlain, hc, h]; rfl, fun h _ => by simp only [evPlain, hc, h]; rfl⟩
    | _ => trivial
  · rename_i c
    generalize h : (match c.callee, c.args.toList, c.argTypes.toList with
      | .builtin .append, [s, x], [t, t'] => sAppend P hp t t' (e s) (e x)
      | _, _, _ => ofOpt (evPlain P e hp (.call c))) = so
    split at h
    · rename_i s x t t' h1 h2 h3
      subst h
      simp only [evPlain, h1, h2, h3]
      exact sAppend_ok
    · subst h; exact ofOpt_ok _
  · exact ofOpt_ok _

theorem sMore_ok {e : Operand → V} (op : Op) : (sMore P e hp op).OK (evMore P e hp op) := by
  unfold sMore
  split
  · rename_i t x i
    generalize h : sArr P hp t (e x) (e i) = so
    unfold sArr at h
    split at h
    · rename_i n el b off kk k hu hx hi
      split at h
      · rename_i s hs
        subst h; intro ha
        simp only [evMore, hx, hi, hu, hs]
        rw [if_pos ha.1]
      · subst h; trivial
    · subst h; trivial
  · rename_i c
    generalize h : (match c.callee, c.args.toList, c.argTypes.toList with
      | .builtin .copy, [s, x], [t, _] => sCopy P hp t (e s) (e x)
      | _, _, _ => ofOpt (evMore P e hp (.call c))) = so
    split at h
    · rename_i s x t t' h1 h2 h3
      simp only [evMore, h1, h2, h3]
      unfold sCopy at h
      split at h
      · rename_i elem hu
        split at h
        · rename_i i b off n full hi hs
          split at h
          · rename_i blk bs m news hb hsrc
            split at h
            · rename_i l hd hsp
              subst h; intro ha
              obtain ⟨h4, h5⟩ := of_decide_eq_true hd
              simp only [evCopy, hu, hi, hs, hb, hsrc]
              rw [if_pos ⟨h4, h5, ha.1, ha.2.1⟩]
              simp only [hsp]
            · subst h; trivial
          · subst h; trivial
        · subst h; trivial
      · subst h; trivial
    · subst h; exact ofOpt_ok _
  · exact ofOpt_ok _

end
end Go.Proofs.YtjgancippgpdhaaGreatDoor

namespace Go.Proofs.YtjgancippgpdhaaGreatDoor
open Go.RowKit

/-- A tree: what it comes to in the end, what is owed on the way; it parts by 'cond'. -/
inductive T (α : Type) : Type 1 where
  | done (a : α)
  | need (ps : List Prop) (t : T α)
  | bind {β : Type} (v : β) (k : β → T α)
  | fail
def T.WP {α : Type} (Q : α → Prop) : T α → Prop
  | .done a => Q a
  | .need ps t => All ps ∧ t.WP Q
  | .bind v k => ∀ y, y = v → (k y).WP Q
  | .fail => False
/-- The tree itself: reckoned at once. -/
def T.force {α : Type} (t : T α) : T α := match t with
  | .done a => .done a
  | .need ps t => .need ps t
  | .bind v k => .bind v k
  | .fail => .fail
theorem T.force_eq {α : Type} (t : T α) : t.force = t := by cases t <;> rfl
def needs {α : Type} (ps : List Prop) (t : T α) : T α :=
  match ps with
  | [] => t
  | p :: ps => .need (p :: ps) t
theorem WP_needs {α : Type} {Q : α → Prop} {ps : List Prop} {t : T α} (h : (needs ps t).WP Q) : All ps ∧ t.WP Q := by
  cases ps with
  | nil => exact ⟨trivial, h⟩
  | cons p ps => exact h
theorem WP_cond {α : Type} {Q : α → Prop} {b : Bool} {x y : T α} : (cond b x y).WP Q ↔ (b = true → x.WP Q) ∧ (b = false → y.WP Q) := by
  cases b <;> simp

theorem WP_cond_or {α : Type} {Q : α → Prop} {b : Bool} {x y : T α} (h : (cond b x y).WP Q) : x.WP Q ∨ y.WP Q := by
  cases b
  · exact .inr h
  · exact .inl h

/-- What a call is said to give: a value, and how it reads. -/
structure RRes : Type 1 where
  {β : Type}
  v : β
  r : β → Ret
abbrev ResT := FuncId → List V → Hp → Option RRes

/-- What is said of a loop: what is kept at its start, the state there; how it ends, the state then. -/
inductive LAlt where
  | one (k : Kp) (s0 : St) (ex : Ex) (s1 : St)
  | two (k : Kp) (s0 : St) (c : Bool) (ex : Ex) (s1 : St) (ex' : Ex) (s1' : St)

structure LRes : Type 1 where
  {β : Type}
  v : β
  alt : β → LAlt

structure Env : Type 1 where
  P : Program
  vw : Vw
  res : ResT
  ls : Nat → St → Option LRes := fun _ _ => none
  vs : List (Nat × Nat × V) := []
  mt : List (TypeId × String × FuncId) := []
  sp : Nat → Nat → FuncId → List V → Hp → Option (Bool × Ret × Ret) := fun _ _ _ _ _ => none

def vsAt (vs : List (Nat × Nat × V)) (r i : Nat) : Option V := (vs.find? fun h => Nat.beq h.1 r && Nat.beq h.2.1 i).map (·.2.2)

def bodyB (P : Program) (f : FuncId) : Bool := match P.funcs[f]? with
  | some fn => fn.body.isSome
  | none => false
/-- A call whose result is r. -/
def callOut (hp : Hp) (ids : List Nat) (r : Ret) : Out :=
  ⟨V.ren (backTo ids hp.length) r.v, (hp.zipIdx.map fun x => if (r.wr.filterMap fun j => ids[j]?).contains x.2 then renB (backTo ids hp.length) (((pos ids x.2).bind fun j => r.hp[j]?).getD none) else x.1) ++ (r.hp.drop ids.length).map (renB (backTo ids hp.length)), ids, r.wr.filterMap fun j => ids[j]?⟩

section
variable {α : Type}

def callT (E : Env) (r i : Nat) (hp : Hp) (f : FuncId) (vs : List V) (k : Out → T α) : T α :=
  let ids := reach hp 100000 (V.refsL vs) []
  let vs' := V.renL (pos ids) vs
  let hp' := ids.map fun b => renB (pos ids) (hp.getD b none)
  match E.sp r i f vs' hp', bodyB E.P f with
  | some (c, r1, r2), true => cond c (.need [FnOK E.P f vs' hp' r1] (k (callOut hp ids r1))) (.need [FnOK E.P f vs' hp' r2] (k (callOut hp ids r2)))
  | _, b => match E.res f vs' hp', b with
    | some ⟨v, r⟩, true => .bind v fun y => .need [FnOK E.P f vs' hp' (r y)] (k (callOut hp ids (r y)))
    | _, _ => .fail

noncomputable def opT (E : Env) (r i : Nat) (e : Operand → V) (hp : Hp) (op : Op) (k : Out → T α) : T α :=
  match op with
  | .call { callee := .value f, args := args, argTypes := _ } =>
    match e f with
    | .fn g cap => callT E r i hp g (args.toList.map e ++ cap) k
    | _ => .fail
  | .call { callee := .invoke x name, args := args, argTypes := _ } =>
    match e x with
    | .box (.iface t) [v] => match E.mt.find? (fun m => Nat.beq m.1 t && m.2.1 == name) with
      | some (t', name', f) => .need [t' = t, name' = name, MethodIs E.P t name f] (callT E r i hp f (v :: args.toList.map e) k)
      | none => .fail
    | _ => .fail
  | op => match vsAt E.vs r i, op with
    | some v, .load t x => match e x with
      | .ptr b o => match hp[b]?, E.P.underlying t, szOf E.P t with
        | some (some blk), some d, some _ => match rowD d with
          | true => .fail
          | false => .need [(flat blk.1)[o]? = some v] (k ⟨v, hp, [b], []⟩)
        | _, _, _ => .fail
      | _ => .fail
    | _, op => match evOpS E.P E.vw e hp op with
      | .one ps o => needs ps (k o)
      | .two c ps o qs o' => cond c (needs ps (k o)) (needs qs (k o'))
      | .no => match evPlain E.P e hp op with
        | some o => k o
        | none => match sMore E.P e hp op with
          | .one ps o => needs ps (k o)
          | _ => .fail

/-- A known test is written down. -/
def knowK {β : Type _} (s : St) (d : Nat) (b : Bool) (k : St → β) : β := putK s.tm (some d) (.bool b) fun tm => k ⟨tm, s.hp, s.wr⟩
theorem Tr.set_same : ∀ (t : Tr) (i : Nat), t.set i (t.get i) = t
  | .leaf, _ => rfl
  | .node v l r, i => by
    unfold Tr.set Tr.get
    cases h0 : Nat.beq i 0
    · cases h1 : Nat.beq (i % 2) 1
      · simp only [Tr.set_same r]
      · simp only [Tr.set_same l]
    · rfl
theorem knowK_eq {β : Type _} {s : St} {d : Nat} {b : Bool} {k : St → β} (h : s.tm.get d = .bool b) : knowK s d b k = k s := by
  unfold knowK
  rw [putK_eq]
  have : putV s.tm (some d) (.bool b) = s.tm := by
    unfold Tm.get at h
    split at h
    · show (⟨s.tm.n, s.tm.t.set d (.bool b)⟩ : Tm) = s.tm
      rw [← h, Tr.set_same]
    · cases h
  rw [this]

noncomputable def runT (E : Env) (r i : Nat) (s : St) (o : Oper) (k : St → List Nat → List Nat → T α) : T α := opT E r i (evalV s.tm) s.hp o.op fun out => forceV out.v fun v => putK s.tm o.dst v fun tm => k ⟨tm, out.hp, forceW out.wr s.wr⟩ out.acc out.wr
def skipT (s : St) (o : Oper) (k : St → List Nat → List Nat → T α) : T α := putK s.tm o.dst (.lit undef) fun tm => k ⟨tm, s.hp, s.wr⟩ [] []
noncomputable def stepT (E : Env) (ops : Array Oper) (r i : Nat) (s : St) (o : Oper) (k : St → List Nat → List Nat → T α) : T α :=
  match o.guard with
  | none => opT E r i (evalV s.tm) s.hp o.op fun out => forceV out.v fun v => putK s.tm o.dst v fun tm => k ⟨tm, out.hp, forceW out.wr s.wr⟩ out.acc out.wr
  | some (j, want) => match (ops[j]?).bind (·.dst) with
    | some d => match s.tm.get d with
      | .bool b => match want with
        | true => cond b (knowK s d true fun s => runT E r i s o k) (knowK s d false fun s => skipT s o k)
        | false => cond b (knowK s d true fun s => skipT s o k) (knowK s d false fun s => runT E r i s o k)
      | .lit (.tuple _) => putK s.tm o.dst (.lit undef) fun tm => k ⟨tm, s.hp, s.wr⟩ [] []
      | _ => .fail
    | none => .fail

noncomputable def traceT (E : Env) (ops : Array Oper) (r : Nat) : Nat → List Oper → St → List Rec → (List Rec → St → T α) → T α
  | _, [], s, acc, k => k acc.reverse s
  | i, o :: rest, s, acc, k => stepT E ops r i s o fun s' ac wr => traceT E ops r (i + 1) rest s' ((s, ac, wr) :: acc) k

noncomputable def codeT (E : Env) (m : Nat) : Code → St → (Ex → St → T α) → T α
  | .skip, s, k => k .normal s
  | .region id ops draw, s, k => traceT E ops id 0 ops.toList s [] fun l s2 => match draw with
    | false => k .normal s2
    | true => match drawOK ops l s2 with
      | true => k .normal s2
      | false => .fail
  | .seq x y, s, k => codeT E m x s fun ex s' => match ex with
    | .normal => codeT E m y s' k
    | .exit i => k (.exit i) s'
    | .ret => k .ret s'
  | .cond c x y, s, k => match evalV s.tm c with
    | .bool b => match c with
      | .tmp t => cond b (knowK s t true fun s => codeT E m x s k) (knowK s t false fun s => codeT E m y s k)
      | _ => cond b (codeT E m x s k) (codeT E m y s k)
    | _ => .fail
  | .block id body, s, k => match E.ls id s with
    | some ⟨v, alt⟩ => .bind v fun y => match alt y with
      | .one kp s0 ex s1 => match permOK m (kp.ids m s) with
        | true => .need [normS E.P m kp s = s0, SoundC E.P m body s0 ex s1] (k (outEx id ex) s1)
        | false => .fail
      | .two kp s0 c ex s1 ex' s1' => match permOK m (kp.ids m s) with
        | true => .need [normS E.P m kp s = s0] (cond c (.need [SoundC E.P m body s0 ex s1] (k (outEx id ex) s1)) (.need [SoundC E.P m body s0 ex' s1'] (k (outEx id ex') s1')))
        | false => .fail
    | none => codeT E m body s fun ex s' => k (outEx id ex) s'
  | .exit id, s, k => k (.exit id) s
  | .ret, s, k => k .ret s
  | _, _, _ => .fail

/-- Which blocks keep their names behind a call. -/
def keepIds (m mode : Nat) (v : List V) (hp : Hp) : List Nat :=
  (List.range m ++ ((match mode with
    | 0 => V.ptrsL v
    | 1 => V.refsL v
    | _ => V.refsL v ++ (hp.take m).flatMap (fun (x : Option Blk) => match x with | some blk => V.refsL blk.1 | none => [])).filter fun b => Nat.ble m b)).eraseDups
/-- Which of them are slices, by their new numbers. -/
def sealIds (m : Nat) (ids : List Nat) (ptrs : List Nat) : List Nat := ((List.range ids.length).filter fun j => Nat.ble m j && !(ptrs.contains (ids.getD j 0)))
def retT (E : Env) (m mode : Nat) (fn : Func) (s : St) : T Ret :=
  match evResultL E.P s.hp s.tm fn.results.toList with
  | some v => match permOK m (keepIds m mode v s.hp) with
    | true => .done (gc E.P m (keepIds m mode v s.hp) (sealIds m (keepIds m mode v s.hp) (V.ptrsL v)) (oneOf v) s)
    | false => .fail
  | none => .fail
/-- A whole function. -/
noncomputable def fnT (E : Env) (mode : Nat) (f : FuncId) (vs : List V) (hp : Hp) : T Ret :=
  match E.P.funcs[f]? with
  | some fn => match fn.body with
    | some c => codeT E hp.length c ⟨Tm.start (vs.length + (fn.ntmps - vs.length)) vs, hp, []⟩ fun ex s => match ex with
      | .normal => retT E hp.length mode fn s
      | .ret => retT E hp.length mode fn s
      | .exit _ => .fail
    | none => .fail
  | none => .fail
/-- A piece of code; behind it only what is kept. -/
noncomputable def bodyT (E : Env) (m : Nat) (nf : Ex → Kp) (c : Code) (s : St) : T (Ex × St) :=
  codeT E m c s fun ex s' => match permOK m ((nf ex).ids m s') with
    | true => .done (ex, normS E.P m (nf ex) s')
    | false => .fail

variable {E : Env} {Q : α → Prop}

theorem noCall_ok (P : Program) : CallOK P fun _ _ _ => none := fun _ _ _ _ h => by cases h
theorem noCall_bodied (P : Program) : Bodied P fun _ _ _ => none := fun _ _ _ _ h => by cases h

theorem evOp_plain {P : Program} {callF : CallF} {e : Operand → V} {hp : Hp} {op : Op} {out : Out} (h : evPlain P e hp op = some out) : evOp P callF e hp op = some out := by
  unfold evOp
  split
  · simp [evPlain] at h
  · simp [evPlain] at h
  · rw [h]

open Classical in
noncomputable def oneCall (f : FuncId) (vs : List V) (hp : Hp) (r : Ret) : CallF := fun f' vs' hp' => if f' = f ∧ vs' = vs ∧ hp' = hp then some r else none
theorem oneCall_ok {P : Program} {f : FuncId} {vs : List V} {hp : Hp} {r : Ret} (h : FnOK P f vs hp r) : CallOK P (oneCall f vs hp r) := by
  intro f' vs' hp' r' h'
  unfold oneCall at h'
  split at h'
  · rename_i hc; obtain ⟨rfl, rfl, rfl⟩ := hc; cases h'; exact h
  · cases h'
theorem oneCall_bodied {P : Program} {f : FuncId} {vs : List V} {hp : Hp} {r : Ret} (h : bodyB P f = true) : Bodied P (oneCall f vs hp r) := by
  intro f' vs' hp' r' h'
  unfold oneCall at h'
  split at h'
  · rename_i hc; obtain ⟨rfl, rfl, rfl⟩ := hc
    unfold bodyB at h
    split at h
    · rename_i fn hfn; exact ⟨fn, hfn, h⟩
    · cases h
  · cases h'

theorem callT_ok {r i : Nat} {hp : Hp} {f : FuncId} {vs : List V} {k : Out → T α} (h : (callT E r i hp f vs k).WP Q) :
    ∃ callF out, Bodied E.P callF ∧ CallOK E.P callF ∧ evCall callF hp f vs = some out ∧ (k out).WP Q := by
  unfold callT at h
  simp only at h
  split at h
  · rename_i c r1 r2 hr hb
    cases c
    · obtain ⟨⟨h1, _⟩, h2⟩ := h
      refine ⟨_, _, oneCall_bodied (r := r2) hb, oneCall_ok h1, ?_, h2⟩
      unfold evCall oneCall
      simp only [and_self, if_true]
      rfl
    · obtain ⟨⟨h1, _⟩, h2⟩ := h
      refine ⟨_, _, oneCall_bodied (r := r1) hb, oneCall_ok h1, ?_, h2⟩
      unfold evCall oneCall
      simp only [and_self, if_true]
      rfl
  · split at h
    · rename_i β v r hr hb
      obtain ⟨⟨h1, _⟩, h2⟩ := h v rfl
      refine ⟨_, _, oneCall_bodied (r := r v) hb, oneCall_ok h1, ?_, h2⟩
      unfold evCall oneCall
      simp only [and_self, if_true]
      rfl
    · exact h.elim

theorem opT_ok {r i : Nat} {e : Operand → V} {hp : Hp} {op : Op} {k : Out → T α} (h : (opT E r i e hp op k).WP Q) :
    ∃ callF out, Bodied E.P callF ∧ CallOK E.P callF ∧ evOp E.P callF e hp op = some out ∧ (k out).WP Q := by
  unfold opT at h
  split at h
  · split at h
    · rename_i f args ts g cap hf
      obtain ⟨callF, out, h1, h2, h3, h4⟩ := callT_ok h
      exact ⟨callF, out, h1, h2, by simp only [evOp, hf]; exact h3, h4⟩
    · exact h.elim
  · split at h
    · rename_i x name args ts t v hx
      split at h
      · rename_i t' name' f hm
        obtain ⟨⟨rfl, rfl, hmi, _⟩, h⟩ := h
        obtain ⟨callF, out, h1, h2, h3, h4⟩ := callT_ok h
        exact ⟨callF, out, h1, h2, by simp only [evOp, hx, mtab_eq hmi]; exact h3, h4⟩
      · exact h.elim
    · exact h.elim
  · rename_i hne hne2
    split at h
    · rename_i v t x hv
      split at h
      · rename_i b o hx
        split at h
        · rename_i blk d sz hb hu hs
          split at h
          · exact h.elim
          · rename_i hd
            obtain ⟨⟨h1, _⟩, h2⟩ := h
            refine ⟨_, _, noCall_bodied _, noCall_ok _, evOp_plain ?_, h2⟩
            simp only [evPlain, hx, evLoad, hb, hu, hs, hd, h1]
        · exact h.elim
      · exact h.elim
    · rename_i op _ _ _
      have hok := opS_ok (P := E.P) (vw := E.vw) (hp := hp) (e := e) op
      split at h
      · rename_i ps o hs
        rw [hs] at hok
        obtain ⟨h1, h2⟩ := WP_needs h
        exact ⟨_, _, noCall_bodied _, noCall_ok _, evOp_plain (hok h1), h2⟩
      · rename_i c ps o qs o' hs
        rw [hs] at hok
        cases c
        · obtain ⟨h1, h2⟩ := WP_needs h
          exact ⟨_, _, noCall_bodied _, noCall_ok _, evOp_plain (hok.2 rfl h1), h2⟩
        · obtain ⟨h1, h2⟩ := WP_needs h
          exact ⟨_, _, noCall_bodied _, noCall_ok _, evOp_plain (hok.1 rfl h1), h2⟩
      · split at h
        · rename_i hp1
          exact ⟨_, _, noCall_bodied _, noCall_ok _, evOp_plain hp1, h⟩
        · rename_i hp1
          have hok2 := sMore_ok (P := E.P) (hp := hp) (e := e) op
          split at h
          · rename_i ps o hp2
            rw [hp2] at hok2
            obtain ⟨h1, h2⟩ := WP_needs h
            refine ⟨_, _, noCall_bodied _, noCall_ok _, ?_, h2⟩
            unfold evOp
            split
            · exact absurd rfl (hne _ _ _)
            · exact absurd rfl (hne2 _ _ _ _)
            · rw [hp1]; exact hok2 h1
          · exact h.elim

theorem stepT_ok {ops : Array Oper} {r i : Nat} {s : St} {o : Oper} {k : St → List Nat → List Nat → T α} (h : (stepT E ops r i s o k).WP Q) :
    ∃ callF s' acc wr, Bodied E.P callF ∧ CallOK E.P callF ∧ evStep E.P callF ops s o = some (s', acc, wr) ∧ (k s' acc wr).WP Q := by
  have go : wantedV ops s.tm o = some true → (opT E r i (evalV s.tm) s.hp o.op fun out => forceV out.v fun v => putK s.tm o.dst v fun tm => k ⟨tm, out.hp, forceW out.wr s.wr⟩ out.acc out.wr).WP Q →
      ∃ callF s' acc wr, Bodied E.P callF ∧ CallOK E.P callF ∧ evStep E.P callF ops s o = some (s', acc, wr) ∧ (k s' acc wr).WP Q := by
    intro hw h
    obtain ⟨callF, out, h1, h2, h3, h4⟩ := opT_ok h
    simp only [putK_eq, forceV_eq, forceW_eq] at h4
    refine ⟨callF, _, _, _, h1, h2, ?_, h4⟩
    unfold evStep
    simp only [hw, h3, putK_eq, forceV_eq, forceW_eq]
  have skip : wantedV ops s.tm o = some false → (putK s.tm o.dst (.lit undef) fun tm => k ⟨tm, s.hp, s.wr⟩ [] []).WP Q →
      ∃ callF s' acc wr, Bodied E.P callF ∧ CallOK E.P callF ∧ evStep E.P callF ops s o = some (s', acc, wr) ∧ (k s' acc wr).WP Q := by
    intro hw h
    simp only [putK_eq] at h
    refine ⟨_, _, _, _, noCall_bodied _, noCall_ok _, ?_, h⟩
    unfold evStep
    simp only [hw, putK_eq]
  unfold stepT at h
  split at h
  · rename_i hg
    exact go (by simp only [wantedV, hg]) h
  · rename_i j want hg
    split at h
    · rename_i d hd
      split at h
      · rename_i b hb
        split at h
        · cases b
          · simp only [cond_false, knowK_eq hb] at h
            exact skip (by simp [wantedV, hg, hd, hb]) h
          · simp only [cond_true, knowK_eq hb] at h
            exact go (by simp [wantedV, hg, hd, hb]) h
        · cases b
          · simp only [cond_false, knowK_eq hb] at h
            exact go (by simp [wantedV, hg, hd, hb]) h
          · simp only [cond_true, knowK_eq hb] at h
            exact skip (by simp [wantedV, hg, hd, hb]) h
      · rename_i hb
        exact skip (by simp only [wantedV, hg, hd, hb]) h
      · exact h.elim
    · exact h.elim

theorem traceT_ok {ops : Array Oper} {r : Nat} : ∀ {os : List Oper} {i : Nat} {s : St} {acc : List Rec} {k : List Rec → St → T α}, (traceT E ops r i os s acc k).WP Q →
    ∃ l s2, TraceR E.P ops os s l s2 ∧ (k (acc.reverse ++ l) s2).WP Q
  | [], i, s, acc, k, h => ⟨[], s, .nil s, by simpa [traceT] using h⟩
  | o :: rest, i, s, acc, k, h => by
    unfold traceT at h
    obtain ⟨callF, s', ac, wr, h1, h2, h3, h4⟩ := stepT_ok h
    obtain ⟨l, s2, h5, h6⟩ := traceT_ok h4
    refine ⟨(s, ac, wr) :: l, s2, .cons callF h1 h2 h3 h5, ?_⟩
    simpa using h6

theorem codeT_ok (hm : E.P.follows .mixedOrders = true) (hn : Named E.P) {m : Nat} : ∀ {c : Code} {s : St} {k : Ex → St → T α}, (codeT E m c s k).WP Q → ∃ ex s', SoundC E.P m c s ex s' ∧ (k ex s').WP Q
  | .skip, s, k, h => ⟨.normal, s, .skip, h⟩
  | .region id ops draw, s, k, h => by
    unfold codeT at h
    obtain ⟨l, s2, h1, h2⟩ := traceT_ok h
    simp only [List.reverse_nil, List.nil_append] at h2
    cases draw with
    | false => exact ⟨.normal, s2, .region hm hn h1 (fun h => by cases h), h2⟩
    | true =>
      simp only at h2
      split at h2
      · rename_i hd
        exact ⟨.normal, s2, .region hm hn h1 (fun _ => hd), h2⟩
      · exact h2.elim
  | .seq x y, s, k, h => by
    unfold codeT at h
    obtain ⟨ex, s', h1, h2⟩ := codeT_ok hm hn h
    cases ex with
    | normal =>
      obtain ⟨ex2, s2, h3, h4⟩ := codeT_ok hm hn h2
      exact ⟨ex2, s2, .seq h1 h3, h4⟩
    | exit i => exact ⟨_, _, .seq_out h1 (by simp), h2⟩
    | ret => exact ⟨_, _, .seq_out h1 (by simp), h2⟩
  | .cond c x y, s, k, h => by
    unfold codeT at h
    split at h
    · rename_i b hb
      have h' : (cond b (codeT E m x s k) (codeT E m y s k)).WP Q := by
        split at h
        · cases b
          · rwa [cond_false, knowK_eq hb] at h
          · rwa [cond_true, knowK_eq hb] at h
        · exact h
      clear h
      cases b
      · obtain ⟨ex, s', h1, h2⟩ := codeT_ok hm hn h'
        exact ⟨ex, s', .cond hb h1, h2⟩
      · obtain ⟨ex, s', h1, h2⟩ := codeT_ok hm hn h'
        exact ⟨ex, s', .cond hb h1, h2⟩
    · exact h.elim
  | .block id body, s, k, h => by
    unfold codeT at h
    split at h
    · replace h := h _ rfl
      simp only at h
      split at h
      · split at h
        · rename_i hp
          obtain ⟨⟨h1, h2, _⟩, h3⟩ := h
          exact ⟨_, _, .block (.pre (h1 ▸ normS_weak hp) h2), h3⟩
        · exact h.elim
      · split at h
        · rename_i hp
          obtain ⟨⟨h1, _⟩, h3⟩ := h
          rcases WP_cond_or h3 with h3 | h3
          · obtain ⟨⟨h2, _⟩, h4⟩ := h3
            exact ⟨_, _, .block (.pre (h1 ▸ normS_weak hp) h2), h4⟩
          · obtain ⟨⟨h2, _⟩, h4⟩ := h3
            exact ⟨_, _, .block (.pre (h1 ▸ normS_weak hp) h2), h4⟩
        · exact h.elim
    · obtain ⟨ex, s', h1, h2⟩ := codeT_ok hm hn h
      exact ⟨_, _, .block h1, h2⟩
  | .exit id, s, k, h => ⟨_, _, .exit, h⟩
  | .ret, s, k, h => ⟨_, _, .ret, h⟩
  | .loop _, _, _, h => h.elim
  | .rangeFunc _ _ _ _, _, _, h => h.elim
  | .scope _, _, _, h => h.elim
  | .label _, _, _, h => h.elim
  | .goto _, _, _, h => h.elim
  | .refuse _, _, _, h => h.elim

theorem fnT_ok (hm : E.P.follows .mixedOrders = true) (hn : Named E.P) {mode : Nat} {f : FuncId} {vs : List V} {hp : Hp} {Q : Ret → Prop} (h : (fnT E mode f vs hp).WP Q) : ∃ r, FnOK E.P f vs hp r ∧ Q r := by
  unfold fnT at h
  split at h
  · rename_i fn hfn
    split at h
    · rename_i c hc
      obtain ⟨ex, s, h1, h2⟩ := codeT_ok hm hn h
      have key : (retT E hp.length mode fn s).WP Q → ex = .normal ∨ ex = .ret → ∃ r, FnOK E.P f vs hp r ∧ Q r := by
        intro h hex
        unfold retT at h
        split at h
        · rename_i v hv
          split at h
          · rename_i hp
            exact ⟨_, fnOK_code hfn hc h1 hex hv hp rfl, h⟩
          · exact h.elim
        · exact h.elim
      cases ex with
      | normal => exact key h2 (.inl rfl)
      | ret => exact key h2 (.inr rfl)
      | exit _ => exact h2.elim
    · exact h.elim
  · exact h.elim
theorem fnOK_T (hm : E.P.follows .mixedOrders = true) (hn : Named E.P) {mode : Nat} {f : FuncId} {vs : List V} {hp : Hp} {r : Ret} {t : T Ret} (e : fnT E mode f vs hp = t) (h : t.WP (· = r)) : FnOK E.P f vs hp r := by
  subst e
  obtain ⟨r', h1, rfl⟩ := fnT_ok hm hn h
  exact h1

theorem bodyT_ok (hm : E.P.follows .mixedOrders = true) (hn : Named E.P) {m : Nat} {nf : Ex → Kp} {c : Code} {s : St} {Q : Ex × St → Prop} (h : (bodyT E m nf c s).WP Q) : ∃ ex s', SoundC E.P m c s ex s' ∧ Q (ex, s') := by
  unfold bodyT at h
  obtain ⟨ex, s', h1, h2⟩ := codeT_ok hm hn h
  split at h2
  · rename_i hp
    exact ⟨ex, _, h1.post (normS_weak hp), h2⟩
  · exact h2.elim

/-- A round of a loop: it ends, or goes on to its end. -/
def LoopQ (P : Program) (m : Nat) (body : Code) (ex : Ex) (s' : St) : Ex × St → Prop
  | (.normal, s1) => LoopTo P m body s1 ex s'
  | (.exit i, s1) => Ex.exit i = ex ∧ s1 = s'
  | (.ret, s1) => Ex.ret = ex ∧ s1 = s'
theorem loopT (hm : E.P.follows .mixedOrders = true) (hn : Named E.P) {m : Nat} {nf : Ex → Kp} {c : Code} {s s' : St} {ex : Ex} {t : T (Ex × St)} (e : bodyT E m nf c s = t) (h : t.WP (LoopQ E.P m c ex s')) : LoopTo E.P m c s ex s' := by
  subst e
  obtain ⟨ex1, s1, h1, h2⟩ := bodyT_ok hm hn h
  cases ex1 with
  | normal => exact .step h1 h2
  | exit i => obtain ⟨rfl, rfl⟩ := h2; exact .done h1 (by simp)
  | ret => obtain ⟨rfl, rfl⟩ := h2; exact .done h1 (by simp)
theorem soundT (hm : E.P.follows .mixedOrders = true) (hn : Named E.P) {m : Nat} {nf : Ex → Kp} {c : Code} {s s' : St} {ex : Ex} {t : T (Ex × St)} (e : bodyT E m nf c s = t) (h : t.WP (· = (ex, s'))) : SoundC E.P m c s ex s' := by
  subst e
  obtain ⟨ex1, s1, h1, h2⟩ := bodyT_ok hm hn h
  cases h2
  exact h1

end
end Go.Proofs.YtjgancippgpdhaaGreatDoor

namespace Go.Proofs.YtjgancippgpdhaaGreatDoor
open Go.RowKit

theorem named : Named Tryz.prog := named_of (by kernel_rfl)
theorem follows : Tryz.prog.follows .mixedOrders = true := by kernel_rfl
def mkTm (n : Nat) (l : List (Nat × V)) : Tm := l.foldl (fun t p => t.put p.1 p.2) ⟨n, Tr.mk0 11⟩

/-- A layout: elements of s cells, that can be read back. -/
structure Lay {α : Type} (enc : α → List V) (s : Nat) : Prop where
  pos : 0 < s
  len : ∀ x, (enc x).length = s
  inj1 : ∀ x y, enc x = enc y → x = y
  one : ∀ x, (enc x).all V.one = true

section
variable {α : Type} {enc : α → List V} {s : Nat}

theorem encs_nil : encs enc [] = [] := rfl
theorem encs_cons (x : α) (L : List α) : encs enc (x :: L) = enc x ++ encs enc L := rfl
theorem encs_append (L M : List α) : encs enc (L ++ M) = encs enc L ++ encs enc M := by simp [encs]
theorem encs_one (x : α) : encs enc [x] = enc x := by simp [encs]
theorem encs_snoc (L : List α) (x : α) : encs enc (L ++ [x]) = encs enc L ++ enc x := by rw [encs_append, encs_one]

theorem Lay.inj (h : Lay enc s) : ∀ L M : List α, encs enc L = encs enc M → L = M := by
  intro L
  induction L with
  | nil =>
    intro M hM
    cases M with
    | nil => rfl
    | cons y M =>
      have h1 := h.len y
      have h2 := h.pos
      rw [encs_nil, encs_cons] at hM
      have := congrArg List.length hM
      rw [List.length_append] at this
      rw [h1, List.length_nil] at this; omega
  | cons x L ih =>
    intro M hM
    cases M with
    | nil =>
      have h1 := h.len x
      have h2 := h.pos
      rw [encs_nil, encs_cons] at hM
      have := congrArg List.length hM
      rw [List.length_append] at this
      rw [h1, List.length_nil] at this; omega
    | cons y M =>
      rw [encs_cons, encs_cons] at hM
      obtain ⟨e1, e2⟩ := List.append_inj hM (by rw [h.len, h.len])
      rw [h.inj1 _ _ e1, ih M e2]
theorem Lay.decL (h : Lay enc s) (L : List α) : decL enc (encs enc L) = L := by
  have he : ∃ M, encs enc M = encs enc L := ⟨L, rfl⟩
  unfold Go.Proofs.YtjgancippgpdhaaGreatDoor.decL
  rw [dif_pos he]
  exact h.inj _ _ he.choose_spec
theorem Lay.length (h : Lay enc s) (L : List α) : (encs enc L).length = L.length * s := by
  induction L with
  | nil => simp [encs]
  | cons x L ih => rw [encs_cons, List.length_append, h.len, ih, List.length_cons, Nat.add_mul, Nat.one_mul, Nat.add_comm]
theorem Lay.all (h : Lay enc s) (L : List α) : (encs enc L).all V.one = true := by
  induction L with
  | nil => rfl
  | cons x L ih => rw [encs_cons, List.all_append, h.one, ih]; rfl
theorem Lay.drop (h : Lay enc s) : ∀ (L : List α) (i : Nat), (encs enc L).drop (i * s) = encs enc (L.drop i)
  | L, 0 => by simp
  | [], i + 1 => by simp [encs]
  | x :: L, i + 1 => by
    rw [encs_cons, List.drop_succ_cons, ← h.drop L i, Nat.succ_mul, Nat.add_comm, ← List.drop_drop, List.drop_left' (h.len x)]
theorem Lay.take (h : Lay enc s) : ∀ (L : List α) (i : Nat), (encs enc L).take (i * s) = encs enc (L.take i)
  | L, 0 => by simp [encs]
  | [], i + 1 => by simp [encs]
  | x :: L, i + 1 => by
    rw [encs_cons, List.take_succ_cons, encs_cons, ← h.take L i, Nat.succ_mul, Nat.add_comm, List.take_append, h.len]
    rw [List.take_of_length_le (by rw [h.len]; omega), Nat.add_sub_cancel_left]
/-- An element is read. -/
theorem Lay.at (h : Lay enc s) (L : List α) (d : α) (i k : Nat) (hi : i < L.length) (hk : k = s) : ((encs enc L).drop (i * s)).take k = enc (L.getD i d) := by
  subst hk
  rw [h.drop, List.drop_eq_getElem_cons hi, encs_cons, List.take_left' (h.len _), List.getD_eq_getElem?_getD, List.getElem?_eq_getElem hi]
  rfl
theorem Lay.at' (h : Lay enc s) (L : List α) (d : α) (k : Int) (n : Nat) (hk : 0 ≤ k ∧ k < L.length) (hn : n = s) : ((encs enc L).drop (k.toNat * s)).take n = enc (L.getD k.toNat d) := h.at L d k.toNat n (by omega) hn
theorem getD_nat (L : List α) (d : α) (k : Nat) : L.getD ((k : Int).toNat) d = L.getD k d := by rw [Int.toNat_natCast]
end

theorem layByte : Lay encByte 1 :=
  ⟨by omega, fun _ => rfl, fun x y h => by simp only [encByte, List.cons.injEq, V.int.injEq, true_and, and_true] at h; exact UInt8.toNat_inj.1 (by omega), fun _ => rfl⟩
theorem byts_encs (l : List UInt8) : byts l = encs encByte l := by
  induction l with
  | nil => rfl
  | cons b l ih => rw [encs_cons, ← ih]; rfl
theorem map_encs (l : List UInt8) : (l.map fun b => V.int .u8 (b.toNat : Nat)) = encs encByte l := byts_encs l
def encStr (s : List UInt8) : List V := [.str s]
theorem layStr : Lay encStr 1 := ⟨by omega, fun _ => rfl, fun x y h => by simpa [encStr] using h, fun _ => rfl⟩
def encInt (n : Int) : List V := [.int .i64 n]
theorem layInt : Lay encInt 1 := ⟨by omega, fun _ => rfl, fun x y h => by simpa [encInt] using h, fun _ => rfl⟩
/-- A slice that is only read. -/
abbrev sls {α : Type} (enc : α → List V) (L : List α) : V := .dsl L.length false (encs enc L)

theorem wrap_id {n : Int} (h : -9223372036854775808 ≤ n ∧ n ≤ 9223372036854775807) : IntKind.i64.wrap n = n := IntWalk.i64_in _ (by omega)
theorem wrap_nat {n : Nat} (h : n ≤ 9223372036854775807) : IntKind.i64.wrap (n : Int) = n := IntWalk.i64_in _ (by omega)
theorem wrap_succ {n : Nat} (h : n < 9223372036854775807) : IntKind.i64.wrap ((n : Int) + 1) = ((n + 1 : Nat) : Int) := by rw [IntWalk.i64_in _ (by omega)]; simp

end Go.Proofs.YtjgancippgpdhaaGreatDoor

namespace Go.Proofs.YtjgancippgpdhaaGreatDoor
open Go.RowKit

section
variable {P : Program}

theorem set_at {hp : Hp} {b : Nat} {X Y : Blk} (_ : hp[b]? = some (some X)) {k : Nat} {blk : Blk} (h : (hp.set b (some Y))[k]? = some (some blk)) : (k = b ∧ blk = Y) ∨ (k ≠ b ∧ hp[k]? = some (some blk)) := by
  rw [List.getElem?_set] at h
  split at h
  · rename_i e
    split at h
    · cases h; exact .inl ⟨e.symm, rfl⟩
    · cases h
  · rename_i e; exact .inr ⟨fun x => e x.symm, h⟩
theorem set_back {hp : Hp} {b : Nat} {X Y : Blk} (hb : hp[b]? = some (some X)) {k : Nat} {blk : Blk} (h : (hp.set b (some Y))[k]? = some (some blk)) : ∃ blk0, hp[k]? = some (some blk0) := by
  rcases set_at hb h with ⟨rfl, _⟩ | ⟨_, h⟩
  · exact ⟨_, hb⟩
  · exact ⟨_, h⟩
theorem set_fwd {hp : Hp} {b : Nat} {X Y : Blk} (hb : hp[b]? = some (some X)) {k : Nat} {blk : Blk} (h : hp[k]? = some (some blk)) : ∃ blk0, (hp.set b (some Y))[k]? = some (some blk0) := by
  rw [List.getElem?_set]
  split
  · rename_i e
    rw [if_pos (by subst e; exact at_lt hb)]
    exact ⟨_, rfl⟩
  · exact ⟨_, h⟩
theorem set_none {hp : Hp} {b : Nat} {X Y : Blk} (hb : hp[b]? = some (some X)) {k : Nat} (h : hp[k]? = some none) : (hp.set b (some Y))[k]? = some none := by
  rw [List.getElem?_set, if_neg (by rintro rfl; rw [hb] at h; cases h)]
  exact h

theorem CR.unsl {I : Nat → Prop} {μ : Mu} {w : World} : ∀ {l : List V} {vs : List Value}, V.RL P I noMu w (flat l) vs → CR P I μ w l vs
  | [], _, h => by simpa [CR, flat, V.RL] using h
  | x :: t, vs, h => by
    rcases seal_or x with ⟨c, rfl⟩ | hx
    · rw [flat_seal] at h
      have hl := h.length
      rw [List.length_append] at hl
      refine CR.seal_iff.2 ⟨vs.take c.length, vs.drop c.length, by simp, ?_, CR.unsl ?_⟩
      · have := h.take c.length
        rwa [List.take_left] at this
      · have := h.drop c.length
        rwa [List.drop_left] at this
    · rw [flat_cons hx] at h
      simp only [V.RL] at h
      obtain ⟨u, us, rfl, h1, h2⟩ := h
      exact (CR.cons_iff hx).2 ⟨u, us, rfl, R_up h1, CR.unsl h2⟩
theorem Holds.unsl {I : Nat → Prop} {μ : Mu} {w : World} {b : Nat} {c : List V} {T : TypeId} (h : Holds P I μ w b ([.sld (flat c)], T)) : Holds P I μ w b (c, T) := by
  obtain ⟨g, cs, fr, k1, k2, k3, k4, k5, k6⟩ := h
  simp only [flat_sealed] at k5 k6
  refine ⟨g, cs, fr, k1, k2, k3, k4, k5, CR.unsl ?_⟩
  obtain ⟨us, vs', e, h1, h2⟩ := CR.seal_iff.1 k6
  simp only [CR] at h2
  subst h2
  rw [List.append_nil] at e
  rw [e]; exact h1
theorem Holds.toSeal {I : Nat → Prop} {μ : Mu} {w : World} {b : Nat} {c : List V} {T : TypeId} (h : Holds P I μ w b (c, T)) (hr : V.refsL c = []) : Holds P I μ w b ([.sld (flat c)], T) := by
  obtain ⟨g, cs, fr, k1, k2, k3, k4, k5, k6⟩ := h
  exact .sld k1 k2 k3 k4 k5 (k6.nomu hr)

theorem FnOK.unsl {f : FuncId} {vs : List V} {hp : Hp} {r : Ret} {b : Nat} {c : List V} {T : TypeId} (h : FnOK P f vs hp r) (hb : hp[b]? = some (some ([.sld (flat c)], T))) (hr : V.refsL c = []) (hw : b ∉ r.wr) :
    FnOK P f vs (hp.set b (some (c, T))) ⟨r.v, r.hp.set b (some (c, T)), r.wr⟩ := by
  obtain ⟨ht, hmain⟩ := h
  have hbl := at_lt hb
  have hrb : r.hp[b]? = some (some ([.sld (flat c)], T)) := by rw [ht.frame b hbl hw]; exact hb
  constructor
  · refine ⟨by simpa using ht.len, fun k hk hn => ?_, fun k hk => by simpa using ht.wrb k hk, fun k hk ⟨blk, hal⟩ => ?_⟩
    · simp only [List.length_set] at hk
      show (r.hp.set b _)[k]? = _
      rw [List.getElem?_set, List.getElem?_set]
      split
      · simp [at_lt hrb]
      · exact ht.frame k hk hn
    · simp only [List.length_set] at hk
      obtain ⟨blk0, h0⟩ := set_back hrb hal
      obtain ⟨blk1, h1⟩ := ht.alive k hk ⟨blk0, h0⟩
      exact set_fwd hb h1
  · intro I w μ vals hvals pre hdom
    simp only [List.length_set] at pre hdom
    have pre' : Pre P I μ w hp (List.range hp.length) r.hp.length := by
      refine ⟨pre.ilt, fun k hk blk hkb => ?_, fun k hk j hj b1 b2 g hne h1 h2 g1 g2 => ?_, fun k h1 h2 => pre.fresh k (by simpa using h1) h2⟩
      · by_cases e : k = b
        · subst e
          rw [hb] at hkb; cases hkb
          exact (pre.holds k hk (c, T) (by rw [List.getElem?_set, if_pos rfl, if_pos hbl])).toSeal hr
        · exact pre.holds k hk blk (by rw [List.getElem?_set, if_neg (fun x => e x.symm)]; exact hkb)
      · obtain ⟨_, k1⟩ := set_fwd (Y := (c, T)) hb h1
        obtain ⟨_, k2⟩ := set_fwd (Y := (c, T)) hb h2
        exact pre.inj k hk j hj _ _ g hne k1 k2 g1 g2
    refine (hmain I w μ vals hvals pre' hdom).mono fun e w' ⟨val, μ', I', he, hR, G⟩ => ⟨val, μ', I', he, hR, ?_⟩
    refine ⟨G.isub, fun k hk => ?_, G.evo, G.le, fun k g hg => by simpa using G.dom k g hg, fun k hk blk hkb => ?_, fun k hk blk hkb g hg => ?_, fun k j b1 b2 g hne hk hj h1 h2 g1 g2 => ?_⟩
    · rcases G.igrow k hk with h | h | ⟨d, h1, h2, ⟨blk, h3⟩, h4⟩
      · exact .inl h
      · exact .inr (.inl h)
      · exact .inr (.inr ⟨d, h1, h2, set_fwd hb h3, set_none hrb h4⟩)
    · simp only [List.length_set] at hk
      rcases set_at hrb hkb with ⟨rfl, rfl⟩ | ⟨_, hkb⟩
      · exact (G.holds k hk _ hrb).unsl
      · exact G.holds k hk blk hkb
    · simp only [List.length_set] at hk
      obtain ⟨blk0, k1⟩ := set_back hrb hkb
      rcases G.prov k hk blk0 k1 g hg with h | ⟨d, h1, h2, ⟨blk, h3⟩, h4⟩
      · exact .inl h
      · exact .inr ⟨d, h1, h2, set_fwd hb h3, set_none hrb h4⟩
    · simp only [List.length_set] at hk hj
      obtain ⟨_, k1⟩ := set_back hrb h1
      obtain ⟨_, k2⟩ := set_back hrb h2
      exact G.inj k j _ _ g hne hk hj k1 k2 g1 g2

/-- More may be said to be written. -/
theorem FnOK.more {f : FuncId} {vs : List V} {hp : Hp} {r : Ret} {wr : List Nat} (h : FnOK P f vs hp r) (h1 : ∀ b ∈ r.wr, b ∈ wr) (h2 : ∀ b ∈ wr, b < hp.length) : FnOK P f vs hp ⟨r.v, r.hp, wr⟩ := by
  obtain ⟨ht, hmain⟩ := h
  refine ⟨⟨ht.len, fun b hb hn => ht.frame b hb fun h => hn (h1 b h), h2, ht.alive⟩, fun I w μ vals hvals pre hdom => (hmain I w μ vals hvals pre hdom).mono fun e w' ⟨val, μ', I', he, hR, G⟩ => ⟨val, μ', I', he, hR, ?_⟩⟩
  refine ⟨G.isub, fun k hk => ?_, G.evo.mono fun k ⟨b, hb, hg⟩ => ⟨b, h1 b hb, hg⟩, G.le, G.dom, G.holds, fun k hk blk hkb g hg => ?_, G.inj⟩
  · rcases G.igrow k hk with h | h | ⟨d, k1, k2⟩
    · exact .inl h
    · exact .inr (.inl h)
    · exact .inr (.inr ⟨d, h1 d k1, k2⟩)
  · rcases G.prov k hk blk hkb g hg with h | ⟨d, k1, k2⟩
    · exact .inl h
    · exact .inr ⟨d, h1 d k1, k2⟩

/-- The result is r, but for what is said to be written. -/
def RetLe (r' r : Ret) : Prop := r'.v = r.v ∧ r'.hp = r.hp ∧ ∀ b ∈ r'.wr, b ∈ r.wr
theorem fnOK_TL {E : Env} (hm : E.P.follows .mixedOrders = true) (hn : Named E.P) {mode : Nat} {f : FuncId} {vs : List V} {hp : Hp} {r : Ret} {t : T Ret} (e : fnT E mode f vs hp = t) (hw : ∀ b ∈ r.wr, b < hp.length) (h : t.WP (RetLe · r)) : FnOK E.P f vs hp r := by
  subst e
  obtain ⟨r', h1, h2, h3, h4⟩ := fnT_ok hm hn h
  have := h1.more h4 hw
  rw [h2, h3] at this
  exact this

end
end Go.Proofs.YtjgancippgpdhaaGreatDoor

namespace Go.Proofs.YtjgancippgpdhaaGreatDoor
open Go.RowKit
set_option maxRecDepth 100000

/-- Rounds from i on, k of them; one may end them all. -/
def runN {α β : Type} (step : Nat → α → α ⊕ β) : Nat → Nat → α → α ⊕ β
  | 0, _, a => .inl a
  | k + 1, i, a => match step i a with
    | .inl a' => runN step k (i + 1) a'
    | .inr b => .inr b
def foldN {α : Type} (step : Nat → α → α) : Nat → Nat → α → α
  | 0, _, a => a
  | k + 1, i, a => foldN step k (i + 1) (step i a)
/-- Is it so from i on, k times? -/
def allN (good : Nat → Bool) : Nat → Nat → Bool
  | 0, _ => true
  | k + 1, i => good i && allN good k (i + 1)
theorem allN_iff (good : Nat → Bool) : ∀ k i, allN good k i = true ↔ ∀ j, i ≤ j → j < i + k → good j = true
  | 0, i => by simp [allN]; intro j h1 h2; omega
  | k + 1, i => by
    rw [allN, Bool.and_eq_true, allN_iff good k (i + 1)]
    constructor
    · rintro ⟨h1, h2⟩ j h3 h4
      rcases Nat.lt_or_ge i j with h | h
      · exact h2 j (by omega) (by omega)
      · obtain rfl : j = i := by omega
        exact h1
    · intro h
      exact ⟨h i (Nat.le_refl _) (by omega), fun j h1 h2 => h j (by omega) (by omega)⟩
theorem allN_list {α : Type} (p : α → Bool) (d : α) (L : List α) : allN (fun i => p (L.getD i d)) L.length 0 = L.all p := by
  rw [Bool.eq_iff_iff, allN_iff, List.all_eq_true]
  constructor
  · intro h x hx
    obtain ⟨j, hj, rfl⟩ := List.getElem_of_mem hx
    have := h j (by omega) (by omega)
    rwa [List.getD_eq_getElem?_getD, List.getElem?_eq_getElem hj] at this
  · intro h j _ hj
    rw [List.getD_eq_getElem?_getD, List.getElem?_eq_getElem (by omega)]
    exact h _ (List.getElem_mem _)

section
variable {E : Env} {m : Nat} {nf : Ex → Kp} {c : Code}

/-- What a round comes to: the next one, or the end of all. -/
def RoundQ {α β : Type} (st : Nat → α → St) (inv : Nat → α → Prop) (ex' : Ex) (sr : β → St) (i : Nat) (s : α ⊕ β) (x : Ex × St) : Prop := match s with
  | .inl a' => x = (.normal, st (i + 1) a') ∧ inv (i + 1) a'
  | .inr b => x = (ex', sr b)
theorem T.WP.mono {α : Type} {Q R : α → Prop} (h : ∀ a, Q a → R a) : ∀ {t : T α}, t.WP Q → t.WP R
  | .done a, k => h a k
  | .need _ _, k => ⟨k.1, T.WP.mono h k.2⟩
  | .bind _ _, k => fun y hy => T.WP.mono h (k y hy)
  | .fail, k => k
theorem T.WP.const {α : Type} {Q : α → Prop} {p : Prop} : ∀ {t : T α}, t.WP (fun a => Q a ∧ p) → p
  | .done _, k => k.2
  | .need _ _, k => T.WP.const k.2
  | .bind v _, k => T.WP.const (k v rfl)
  | .fail, k => k.elim
/-- Rounds that are counted: each goes on, or ends them all. -/
theorem roundsT {α β : Type} {st : Nat → α → St} {n : Nat} (inv : Nat → α → Prop) (step : Nat → α → α ⊕ β) {t : Nat → α → T (Ex × St)} {ex ex' : Ex} {sx : α → St} {sr : β → St}
    (hm : E.P.follows .mixedOrders = true) (hn : Named E.P) (hx : ex ≠ .normal) (hx' : ex' ≠ .normal) (e : ∀ i a, bodyT E m nf c (st i a) = t i a)
    (h : ∀ i a, i < n → inv i a → (t i a).WP (RoundQ st inv ex' sr i (step i a)))
    (he : ∀ a, inv n a → (t n a).WP (· = (ex, sx a))) : ∀ (k i : Nat) (a : α), i + k = n → inv i a →
      match runN step k i a with
      | .inl a' => LoopTo E.P m c (st i a) ex (sx a') ∧ inv n a'
      | .inr b => LoopTo E.P m c (st i a) ex' (sr b)
  | 0, i, a, hi, ha => by
    obtain rfl : i = n := by omega
    exact ⟨.done (soundT hm hn (e i a) (he a ha)) hx, ha⟩
  | k + 1, i, a, hi, ha => by
    have h1 := h i a (by omega) ha
    unfold runN
    cases hs : step i a with
    | inl a' =>
      rw [hs] at h1
      have ih := roundsT inv step hm hn hx hx' e h he k (i + 1) a' (by omega) h1.const
      have hb := soundT hm hn (e i a) (h1.mono fun _ h => h.1)
      simp only
      cases hr : runN step k (i + 1) a' with
      | inl a2 => rw [hr] at ih; exact ⟨.step hb ih.1, ih.2⟩
      | inr b => rw [hr] at ih; exact .step hb ih
    | inr b =>
      rw [hs] at h1
      exact .done (soundT hm hn (e i a) h1) hx'

theorem foldT {α : Type} {st : Nat → α → St} {n : Nat} (inv : Nat → α → Prop) (step : Nat → α → α) {t : Nat → α → T (Ex × St)} {ex : Ex} {sx : α → St}
    (hm : E.P.follows .mixedOrders = true) (hn : Named E.P) (hx : ex ≠ .normal) (e : ∀ i a, bodyT E m nf c (st i a) = t i a)
    (h : ∀ i a, i < n → inv i a → (t i a).WP (· = (.normal, st (i + 1) (step i a))) ∧ inv (i + 1) (step i a))
    (he : ∀ a, inv n a → (t n a).WP (· = (ex, sx a))) : ∀ (k i : Nat) (a : α), i + k = n → inv i a → LoopTo E.P m c (st i a) ex (sx (foldN step k i a)) ∧ inv n (foldN step k i a)
  | 0, i, a, hi, ha => by
    obtain rfl : i = n := by omega
    exact ⟨.done (soundT hm hn (e i a) (he a ha)) hx, ha⟩
  | k + 1, i, a, hi, ha => by
    have h1 := h i a (by omega) ha
    have ih := foldT inv step hm hn hx e h he k (i + 1) (step i a) (by omega) h1.2
    exact ⟨.step (soundT hm hn (e i a) h1.1) ih.1, ih.2⟩

/-- A search: the first round that is not good ends it. -/
theorem scanT {st : Nat → St} {n : Nat} (good : Nat → Bool) {t : Nat → T (Ex × St)} {ex ex' : Ex} {sx sr : St}
    (hm : E.P.follows .mixedOrders = true) (hn : Named E.P) (hx : ex ≠ .normal) (hx' : ex' ≠ .normal) (e : ∀ i, bodyT E m nf c (st i) = t i)
    (h : ∀ i, i < n → (t i).WP (· = bif good i then (.normal, st (i + 1)) else (ex', sr)))
    (he : (t n).WP (· = (ex, sx))) : ∀ (k i : Nat), i + k = n → (allN good k i = true → LoopTo E.P m c (st i) ex sx) ∧ (allN good k i = false → LoopTo E.P m c (st i) ex' sr)
  | 0, i, hi => by
    obtain rfl : i = n := by omega
    exact ⟨fun _ => .done (soundT hm hn (e i) he) hx, fun h => by simp [allN] at h⟩
  | k + 1, i, hi => by
    have h1 := h i (by omega)
    have ih := scanT good hm hn hx hx' e h he k (i + 1) (by omega)
    unfold allN
    cases hg : good i with
    | true =>
      rw [hg] at h1
      have hb := soundT hm hn (e i) h1
      rw [Bool.true_and]
      exact ⟨fun h => .step hb (ih.1 h), fun h => .step hb (ih.2 h)⟩
    | false =>
      rw [hg] at h1
      refine ⟨fun h => by simp at h, fun _ => .done (soundT hm hn (e i) h1) hx'⟩
end
end Go.Proofs.YtjgancippgpdhaaGreatDoor

namespace Go.Proofs.YtjgancippgpdhaaGreatDoor
open Go.RowKit
set_option maxRecDepth 100000

/-- A value: kind, number, text, keys, items. -/
inductive J where
  | mk (kind n : Int) (t : List UInt8) (keys : List (List UInt8)) (items : List J)
namespace J
def kind : J → Int | mk k _ _ _ _ => k
def n : J → Int | mk _ n _ _ _ => n
def t : J → List UInt8 | mk _ _ t _ _ => t
def keys : J → List (List UInt8) | mk _ _ _ ks _ => ks
def items : J → List J | mk _ _ _ _ its => its
theorem eta (j : J) : mk j.kind j.n j.t j.keys j.items = j := by cases j; rfl
end J
def J.zero : J := .mk 0 0 [] [] []
instance : Inhabited J := ⟨.zero⟩

mutual
def encJ : J → List V
  | .mk k n t ks its => [.int .i64 k, .int .i64 n, .str t, .dsl ks.length false (encs encStr ks), .dsl its.length false (encJs its)]
def encJs : List J → List V
  | [] => []
  | j :: js => encJ j ++ encJs js
end
theorem encJs_encs : ∀ js : List J, encJs js = encs encJ js
  | [] => by simp only [encJs]; rfl
  | j :: js => by simp only [encJs, encs_cons, encJs_encs js]
/-- How a value reads. -/
def vwJ (j : J) : List V := [.int .i64 j.kind, .int .i64 j.n, .str j.t, sls encStr j.keys, sls encJ j.items]
theorem encJ_vw (j : J) : encJ j = vwJ j := by
  cases j
  simp only [encJ, vwJ, J.kind, J.n, J.t, J.keys, J.items, sls, encJs_encs]
theorem encJ_len (j : J) : (encJ j).length = 5 := by rw [encJ_vw]; rfl

mutual
theorem encJ_inj : ∀ x y : J, encJ x = encJ y → x = y
  | .mk k n t ks its, .mk k' n' t' ks' its', h => by
    simp only [encJ, List.cons.injEq, V.int.injEq, V.str.injEq, V.dsl.injEq, true_and, and_true] at h
    obtain ⟨h1, h2, h3, ⟨_, h4⟩, _, h5⟩ := h
    rw [h1, h2, h3, layStr.inj _ _ h4, encJs_inj its its' h5]
theorem encJs_inj : ∀ xs ys : List J, encJs xs = encJs ys → xs = ys
  | [], [], _ => rfl
  | [], y :: ys, h => by
    simp only [encJs] at h
    have h1 := congrArg List.length h
    have h2 := encJ_len y
    rw [List.length_append, List.length_nil] at h1; omega
  | x :: xs, [], h => by
    simp only [encJs] at h
    have h1 := congrArg List.length h
    have h2 := encJ_len x
    rw [List.length_append, List.length_nil] at h1; omega
  | x :: xs, y :: ys, h => by
    simp only [encJs] at h
    obtain ⟨e1, e2⟩ := List.append_inj h (by rw [encJ_len, encJ_len])
    rw [encJ_inj x y e1, encJs_inj xs ys e2]
end
theorem layJ : Lay encJ 5 := ⟨by omega, encJ_len, encJ_inj, fun j => by rw [encJ_vw]; rfl⟩

abbrev tJ : Nat := 28
noncomputable def vwA : Vw := fun t cs i =>
  bif Nat.beq t 5 then some (encByte ((decL encByte cs).getD i 0))
  else bif Nat.beq t 9 then some (encStr ((decL encStr cs).getD i []))
  else bif Nat.beq t 3 then some (encInt ((decL encInt cs).getD i 0))
  else bif Nat.beq t tJ then some (vwJ ((decL encJ cs).getD i J.zero))
  else none
theorem vwJ_at (L : List J) (k : Int) (hk : 0 ≤ k ∧ k < L.length) : ((encs encJ L).drop (k.toNat * 5)).take 5 = vwJ (L.getD k.toNat J.zero) := by
  rw [← encJ_vw]; exact layJ.at' L J.zero k 5 hk rfl
/-- A value out of its cells. -/
noncomputable def jOf (k n : Int) (t : List UInt8) (ks its : List V) : J := .mk k n t (decL encStr ks) (decL encJ its)
theorem jOf_vw (j : J) : jOf j.kind j.n j.t (encs encStr j.keys) (encs encJ j.items) = j := by
  unfold jOf; rw [layStr.decL, layJ.decL, J.eta]

end Go.Proofs.YtjgancippgpdhaaGreatDoor

/-
  The small evaluator: results of functions; what is no more named reads as values.
-/
import Derived.Test.YtlimecojoiimaaaGreatUn
namespace Go.Proofs.YtlimecojoiimaaaGreat
open Go.RowKit

section
variable {P : Program} {callF : CallF}

def resSem (tmps : Array Value) : ResultVar → Sem Value
  | .tmp t => pure (tmps.getD t undef)
  | .cell x t => do loadVar t (← asAddr (tmps.getD x undef))

theorem result_sound {hp : Hp} {tm : Tm} {a : Act} {w : World} {Im : Nat → Prop} {μ : Mu} (htm : ∀ t, V.R P Im μ w (tm.get t) (a.tmps.getD t undef)) (hh : ∀ b blk, hp[b]? = some (some blk) → Holds P Im μ w b blk)
    (hil : ∀ k, Im k → k < w.heap.size) (hi : ∀ b c blk blk' g, b ≠ c → hp[b]? = some (some blk) → hp[c]? = some (some blk') → μ b = some g → μ c = some g → False) {r : ResultVar} {v : V} (h : evResult P hp tm r = some v) :
    ∃ val, (resSem a.tmps r).run P w = .ok val w ∧ V.R P Im μ w v val := by
  unfold resSem
  unfold evResult at h
  split at h
  · cases h; exact ⟨_, rfl, htm _⟩
  · rename_i x t
    obtain ⟨out, ho, rfl⟩ := Option.map_eq_some_iff.1 h
    have hx := htm x
    obtain ⟨h1, h2, h3, val, hr, hR⟩ := load_sound ho hx ⟨hil, fun b _ blk hb => hh b blk hb, fun b _ c _ b1 b2 g hne hb hc => hi b c b1 b2 g hne hb hc, fun b hb hb' => by
      have e : out.hp = hp := by
        unfold evLoad at ho
        split at ho
        case h_3 => cases ho
        all_goals
          split at ho
          case h_2 => cases ho
          split at ho
          · split at ho <;> cases ho; rfl
          · split at ho <;> cases ho; rfl
      rw [e] at hb'; omega⟩
    refine ⟨val, ?_, hR⟩
    unfold evLoad at ho
    split at ho
    case h_3 => cases ho
    case h_2 cs hxe =>
      rw [hxe] at hx
      simp only [V.R] at hx
      obtain ⟨g, off, hg, _⟩ := hx
      simp only [hg, Instr.loadAt, Instr.sureAddr, Sem.run_bind, Sem.run_pure, Result.andThen_ok] at hr
      simp only [hg, asAddr, Sem.run_bind, Sem.run_pure, Result.andThen_ok]
      exact hr
    case h_1 b off hxe =>
    rw [hxe] at hx
    simp only [V.R] at hx
    obtain ⟨g, _, hg⟩ := hx
    simp only [hg, Instr.loadAt, Instr.sureAddr, Sem.run_bind, Sem.run_pure, Result.andThen_ok] at hr
    simp only [hg, asAddr, Sem.run_bind, Sem.run_pure, Result.andThen_ok]
    exact hr

theorem resultL_sound {hp : Hp} {tm : Tm} {a : Act} {w : World} {Im : Nat → Prop} {μ : Mu} (htm : ∀ t, V.R P Im μ w (tm.get t) (a.tmps.getD t undef)) (hh : ∀ b blk, hp[b]? = some (some blk) → Holds P Im μ w b blk)
    (hil : ∀ k, Im k → k < w.heap.size) (hi : ∀ b c blk blk' g, b ≠ c → hp[b]? = some (some blk) → hp[c]? = some (some blk') → μ b = some g → μ c = some g → False) : ∀ {rs : List ResultVar} {vs : List V}, evResultL P hp tm rs = some vs →
    ∃ vals : List Value, (rs.mapM (resSem a.tmps)).run P w = .ok vals w ∧ V.RL P Im μ w vs vals
  | [], vs, h => by cases h; exact ⟨[], rfl, by simp [V.RL]⟩
  | r :: rs, vs, h => by
    unfold evResultL at h
    split at h
    case h_2 => cases h
    case h_1 v vs' h1 h2 =>
    cases h
    obtain ⟨val, hr, hR⟩ := result_sound htm hh hil hi h1
    obtain ⟨vals, hrs, hRs⟩ := resultL_sound htm hh hil hi h2
    refine ⟨val :: vals, ?_, by simp only [V.RL]; exact ⟨_, _, rfl, hR, hRs⟩⟩
    rw [List.mapM_cons, Sem.run_bind, hr]
    simp only [Result.andThen_ok, Sem.run_bind, hrs, Sem.run_pure]

theorem results_sound {fn : Func} {hp : Hp} {tm : Tm} {a : Act} {w : World} {Im : Nat → Prop} {μ : Mu} (htm : ∀ t, V.R P Im μ w (tm.get t) (a.tmps.getD t undef)) (hh : ∀ b blk, hp[b]? = some (some blk) → Holds P Im μ w b blk)
    (hil : ∀ k, Im k → k < w.heap.size) (hi : ∀ b c blk blk' g, b ≠ c → hp[b]? = some (some blk) → hp[c]? = some (some blk') → μ b = some g → μ c = some g → False) {vs : List V} (h : evResultL P hp tm fn.results.toList = some vs) :
    ∃ val, (results fn a.tmps).run P w = .ok val w ∧ V.R P Im μ w (oneOf vs) val := by
  obtain ⟨vals, hr, hR⟩ := resultL_sound htm hh hil hi h
  have hl := hR.length
  have hrun : (results fn a.tmps).run P w = .ok (if h : vals.toArray.size = 1 then vals.toArray[0] else .tuple vals.toArray) w := by
    have e : results fn a.tmps = (do let vs ← fn.results.mapM (resSem a.tmps); pure (if h : vs.size = 1 then vs[0] else .tuple vs)) := by
      unfold results
      first | rfl | (congr 1; congr 1; funext r; cases r <;> rfl) | (congr 1)
    rw [e, Sem.run_bind, Array.mapM_eq_mapM_toList]
    simp only [map_eq_pure_bind, Sem.run_bind, Sem.run_pure]
    rw [hr]
    simp only [Result.andThen_ok]
  refine ⟨_, hrun, ?_⟩
  match vs, vals, hR, hl with
  | [], [], _, _ => simp [oneOf, V.R, V.RL]
  | [v], [u], hR, _ =>
    simp only [V.RL] at hR
    obtain ⟨u', us, e, h1, _⟩ := hR
    cases e
    simpa [oneOf] using h1
  | v1 :: v2 :: vs, u1 :: u2 :: us, hR, _ => simp only [oneOf]; simp; simp only [V.R]; exact ⟨_, rfl, by simpa using hR⟩

end

/-- What is no more named: pieces that are sealed stay as they are. -/
def frzSeg (f : V → V) : List V → List V
  | [] => []
  | x :: t => match x with
    | .sld c => match t with
      | [] => c
      | _ :: _ => c ++ frzSeg f t
    | x => f x :: frzSeg f t
theorem frzSeg_seal {f : V → V} {c : List V} : ∀ {t : List V}, frzSeg f (.sld c :: t) = c ++ frzSeg f t
  | [] => by simp [frzSeg]
  | y :: u => rfl
/-- What bears no name any more reads as a value. -/
def frzIn (P : Program) (hp : Hp) (kept : List Nat) (m : Nat) : Nat → V → V
  | 0, _ => .junk
  | n + 1, v => match v with
    | .sl b off k full => if kept.contains b || decide (b < m) then .junk else
      match hp[b]? with
      | some (some blk) => match hasSeal blk.1 with
        | true => if Nat.beq off 0 then .dsl k false (frzSeg (frzIn P hp kept m n) blk.1) else .junk
        | false => match szOf P blk.2 with
          | some s => if ((blk.1.drop off).take (k * s)).length = k * s then .dsl k false (((blk.1.drop off).take (k * s)).map (frzIn P hp kept m n)) else .junk
          | none => .junk
      | _ => .junk
    | .ptr _ _ => .junk
    | .agg cs => .agg (cs.map (frzIn P hp kept m n))
    | .tup cs => .tup (cs.map (frzIn P hp kept m n))
    | .fn f cs => .fn f (cs.map (frzIn P hp kept m n))
    | .dsl k _ cs => .dsl k false cs
    | v => v
def frz (P : Program) (hp : Hp) (kept : List Nat) (m : Nat) : Nat → V → V
  | 0, _ => .junk
  | n + 1, v => match v with
    | .sl b off k full => match pos kept b with
      | some j => .sl j off k full
      | none => frzIn P hp kept m (n + 1) (.sl b off k full)
    | .ptr b off => match pos kept b with
      | some j => .ptr j off
      | none => .junk
    | .agg cs => .agg (cs.map (frz P hp kept m n))
    | .tup cs => .tup (cs.map (frz P hp kept m n))
    | .fn f cs => .fn f (cs.map (frz P hp kept m n))
    | v => v

mutual
/-- Nothing is said of room behind what is only read. -/
def V.can : V → V
  | .dsl n _ cs => .dsl n false cs
  | .agg cs => .agg (V.canL cs)
  | .tup cs => .tup (V.canL cs)
  | .int k n => .int k n
  | .bool b => .bool b
  | .str s => .str s
  | .nilp => .nilp
  | .ptr b o => .ptr b o
  | .sl b o n f => .sl b o n f
  | .dptr cs => .dptr cs
  | .sld cs => .sld cs
  | .fn f cs => .fn f cs
  | .nilf => .nilf
  | .lit u => .lit u
  | .junk => .junk
def V.canL : List V → List V
  | [] => []
  | c :: cs => V.can c :: V.canL cs
end
/-- The cells of pieces, when they are sealed. -/
def flatC : List V → List V
  | [] => []
  | x :: t => match x with
    | .sld c => match t with
      | [] => c
      | _ :: _ => c ++ flatC t
    | x => V.can x :: flatC t
theorem flatC_seal {c : List V} : ∀ {t : List V}, flatC (.sld c :: t) = c ++ flatC t
  | [] => by simp [flatC]
  | y :: u => rfl
def soleSeal : List V → Bool
  | [x] => match x with
    | .sld _ => true
    | _ => false
  | _ => false
def sealSt (m b : Nat) (s : St) : St :=
  match s.hp[b]? with
  | some (some blk) => match Nat.ble m b && !(soleSeal blk.1), V.refsL blk.1 with
    | true, [] => ⟨s.tm, s.hp.set b (some ([.sld (flatC blk.1)], blk.2)), s.wr⟩
    | _, _ => s
  | _ => s
def sealAll (m : Nat) : List Nat → St → St
  | [], s => s
  | b :: bs, s => sealAll m bs (sealSt m b s)

section
variable {P : Program} {callF : CallF}

theorem frzSeg_sound {I I' : Nat → Prop} {μ : Mu} {w : World} {f : V → V} (h : ∀ c u, V.R P I μ w c u → V.R P I' noMu w (f c) u) (hsub : Sub I I') : ∀ {l : List V} {vs : List Value}, CR P I μ w l vs → V.RL P I' noMu w (frzSeg f l) vs
  | [], _, k => by simpa [CR, frzSeg, V.RL] using k
  | x :: t, vs, k => by
    rcases seal_or x with ⟨c, rfl⟩ | hx
    · obtain ⟨us, vs', rfl, h1, h2⟩ := CR.seal_iff.1 k
      rw [frzSeg_seal]
      exact (h1.keep (.refl w (fun _ => False)) hsub (.refl _)).append (frzSeg_sound h hsub h2)
    · obtain ⟨u, us, rfl, h1, h2⟩ := (CR.cons_iff hx).1 k
      have e : frzSeg f (x :: t) = f x :: frzSeg f t := by cases x <;> first | (exact absurd rfl (hx _)) | rfl
      rw [e]
      simp only [V.RL]
      exact ⟨u, us, rfl, h _ _ h1, frzSeg_sound h hsub h2⟩
theorem mapSeg_sound {I I' : Nat → Prop} {μ μ' : Mu} {w : World} {f : V → V} (h : ∀ c u, V.R P I μ w c u → V.R P I' μ' w (f c) u) (hf : ∀ c, f (.sld c) = .sld c) (hsub : Sub I I') : ∀ {l : List V} {vs : List Value}, CR P I μ w l vs → CR P I' μ' w (l.map f) vs
  | [], _, k => by simpa [CR] using k
  | x :: t, vs, k => by
    rw [List.map_cons]
    rcases seal_or x with ⟨c, rfl⟩ | hx
    · obtain ⟨us, vs', rfl, h1, h2⟩ := CR.seal_iff.1 k
      rw [hf]
      exact CR.seal_iff.2 ⟨us, vs', rfl, h1.keep (.refl w (fun _ => False)) hsub (.refl _), mapSeg_sound h hf hsub h2⟩
    · obtain ⟨u, us, rfl, h1, h2⟩ := (CR.cons_iff hx).1 k
      have h3 := h _ _ h1
      exact (CR.cons_iff fun c e => by rw [e] at h3; simp [V.R] at h3).2 ⟨u, us, rfl, h3, mapSeg_sound h hf hsub h2⟩

mutual
theorem R_can {I : Nat → Prop} {μ : Mu} {w : World} : ∀ (v : V) (u : Value), V.R P I μ w v u → V.R P I μ w (V.can v) u
  | .int _ _, _, h => by simpa only [V.can, V.R] using h
  | .bool _, _, h => by simpa only [V.can, V.R] using h
  | .str _, _, h => by simpa only [V.can, V.R] using h
  | .nilp, _, h => by simpa only [V.can, V.R] using h
  | .ptr _ _, _, h => by simpa only [V.can, V.R] using h
  | .sl _ _ _ _, _, h => by simpa only [V.can, V.R] using h
  | .dsl _ _ _, _, h => by
    simp only [V.can, V.R] at h ⊢
    obtain ⟨a, cap, h1, h2, _, h4, h5⟩ := h
    exact ⟨a, cap, h1, h2, by simp, h4, h5⟩
  | .dptr _, _, h => by simpa only [V.can, V.R] using h
  | .sld _, _, h => by simp [V.R] at h
  | .agg cs, _, h => by
    simp only [V.can, V.R] at h ⊢
    obtain ⟨vs, h1, h2⟩ := h
    exact ⟨vs, h1, RL_can cs _ h2⟩
  | .tup cs, _, h => by
    simp only [V.can, V.R] at h ⊢
    obtain ⟨vs, h1, h2⟩ := h
    exact ⟨vs, h1, RL_can cs _ h2⟩
  | .fn _ cs, _, h => by simpa only [V.can, V.R] using h
  | .nilf, _, h => by simpa only [V.can, V.R] using h
  | .lit _, _, h => by simpa only [V.can, V.R] using h
  | .junk, _, _ => by simp [V.can, V.R]
theorem RL_can {I : Nat → Prop} {μ : Mu} {w : World} : ∀ (cs : List V) (us : List Value), V.RL P I μ w cs us → V.RL P I μ w (V.canL cs) us
  | [], _, h => by simpa only [V.canL, V.RL] using h
  | c :: cs, _, h => by
    simp only [V.canL, V.RL] at h ⊢
    obtain ⟨u, us', h1, h2, h3⟩ := h
    exact ⟨u, us', h1, R_can c u h2, RL_can cs us' h3⟩
end
theorem refs_can : (∀ v : V, (V.can v).refs = v.refs) ∧ (∀ l : List V, V.refsL (V.canL l) = V.refsL l) := by
  constructor
  · intro v
    exact V.rec (motive_1 := fun v => (V.can v).refs = v.refs) (motive_2 := fun l => V.refsL (V.canL l) = V.refsL l)
      (fun _ _ => rfl) (fun _ => rfl) (fun _ => rfl) rfl (fun _ _ => rfl) (fun _ _ _ _ => rfl) (fun _ _ _ _ => rfl) (fun _ _ => rfl) (fun _ _ => rfl) (fun _ h => by simpa only [V.can, V.refs] using h) (fun _ h => by simpa only [V.can, V.refs] using h) (fun _ _ _ => rfl) rfl (fun _ => rfl) rfl rfl (fun _ _ h1 h2 => by simp only [V.canL, V.refsL, h1, h2]) v
  · intro l
    exact V.rec_1 (motive_1 := fun v => (V.can v).refs = v.refs) (motive_2 := fun l => V.refsL (V.canL l) = V.refsL l)
      (fun _ _ => rfl) (fun _ => rfl) (fun _ => rfl) rfl (fun _ _ => rfl) (fun _ _ _ _ => rfl) (fun _ _ _ _ => rfl) (fun _ _ => rfl) (fun _ _ => rfl) (fun _ h => by simpa only [V.can, V.refs] using h) (fun _ h => by simpa only [V.can, V.refs] using h) (fun _ _ _ => rfl) rfl (fun _ => rfl) rfl rfl (fun _ _ h1 h2 => by simp only [V.canL, V.refsL, h1, h2]) l
theorem can_noSeal {x : V} (hx : ∀ c, x ≠ .sld c) : ∀ c, V.can x ≠ .sld c := by
  intro c e
  cases x <;> simp only [V.can] at e <;> first | (cases e; done) | exact hx _ rfl
theorem flatC_cons {x : V} {t : List V} (hx : ∀ c, x ≠ .sld c) : flatC (x :: t) = V.can x :: flatC t := by
  cases x <;> first | (exact absurd rfl (hx _)) | rfl
theorem CR.nomuC {I : Nat → Prop} {μ : Mu} {w : World} : ∀ {l : List V} {vs : List Value}, V.refsL l = [] → CR P I μ w l vs → V.RL P I noMu w (flatC l) vs
  | [], _, _, h => by simpa [CR, flatC, V.RL] using h
  | x :: t, vs, hr, h => by
    simp only [V.refsL, List.append_eq_nil_iff] at hr
    rcases seal_or x with ⟨c, rfl⟩ | hx
    · obtain ⟨us, vs', rfl, h1, h2⟩ := CR.seal_iff.1 h
      rw [flatC_seal]; exact h1.append (CR.nomuC hr.2 h2)
    · obtain ⟨u, us, rfl, h1, h2⟩ := (CR.cons_iff hx).1 h
      rw [flatC_cons hx]
      simp only [V.RL]
      exact ⟨u, us, rfl, R_can _ _ (R_nomu _ _ hr.1 h1), CR.nomuC hr.2 h2⟩

/-- What is known of s is known of s'. -/
structure Weak (P : Program) (m : Nat) (s s' : St) : Prop where
  st : ∀ hp0 : Hp, hp0.length = m → SR hp0 s → SR hp0 s'
  run : ∀ {hp0 : Hp} {I0 : Nat → Prop} {μ0 : Mu} {w0 : World}, hp0.length = m → ∀ {a : Act} {w : World} {Im : Nat → Prop} {μ : Mu}, CI P hp0 I0 μ0 w0 s a w Im μ → ∃ Im' μ', CI P hp0 I0 μ0 w0 s' a w Im' μ'

/-- The state that is kept: these temporaries, these blocks; what else is reached reads as values. -/
def normTm (P : Program) (hp : Hp) (perm : List Nat) (m : Nat) (tm : Tm) : List Nat → Tm → Tm
  | [], t => t
  | i :: is, t => normTm P hp perm m tm is (t.put i (frz P hp perm m 100 (tm.get i)))
def normSt (P : Program) (m : Nat) (keep perm : List Nat) (s : St) : St :=
  ⟨normTm P s.hp perm m s.tm keep ⟨s.tm.n, Tr.mk0 11⟩,
   perm.map (fun b => if decide (b < m) && !s.wr.contains b then s.hp.getD b none else (s.hp.getD b none).map fun blk => (blk.1.map (frz P s.hp perm m 100), blk.2)),
   (s.wr.filter fun b => decide (b < m)).eraseDups⟩

theorem normTm_get (hp : Hp) (perm : List Nat) (m : Nat) (tm : Tm) (t : Nat) : ∀ (is : List Nat) (t0 : Tm), (normTm P hp perm m tm is t0).get t = t0.get t ∨ (normTm P hp perm m tm is t0).get t = .junk ∨ (normTm P hp perm m tm is t0).get t = frz P hp perm m 100 (tm.get t)
  | [], _ => .inl rfl
  | i :: is, t0 => by
    unfold normTm
    rcases normTm_get hp perm m tm t is (t0.put i (frz P hp perm m 100 (tm.get i))) with h | h | h
    · by_cases e : i = t
      · subst e
        rcases t0.get_eq i (frz P hp perm m 100 (tm.get i)) with h2 | h2
        · right; right; rw [h, h2.1]
        · right; left; rw [h, h2]
      · left; rw [h, t0.get_ne _ e]
    · exact .inr (.inl h)
    · exact .inr (.inr h)
theorem normTm_n (hp : Hp) (perm : List Nat) (m : Nat) (tm : Tm) : ∀ (is : List Nat) (t0 : Tm), (normTm P hp perm m tm is t0).n = t0.n
  | [], _ => rfl
  | _ :: is, t0 => by unfold normTm; rw [normTm_n hp perm m tm is]; rfl

/-- Does the list begin with all that came in, each block once? -/
def permOK (m : Nat) (perm : List Nat) : Bool := (List.range m).all (fun j => perm[j]? == some j) && decide perm.Nodup

/-- What is known behind: of values, too. -/
structure WeakV (P : Program) (m : Nat) (s s' : St) (f : V → V) : Prop where
  st : ∀ hp0 : Hp, hp0.length = m → SR hp0 s → SR hp0 s'
  run : ∀ {hp0 : Hp} {I0 : Nat → Prop} {μ0 : Mu} {w0 : World}, hp0.length = m → ∀ {a : Act} {w : World} {Im : Nat → Prop} {μ : Mu}, CI P hp0 I0 μ0 w0 s a w Im μ → ∃ Im' μ', CI P hp0 I0 μ0 w0 s' a w Im' μ' ∧ ∀ v u, V.R P Im μ w v u → V.R P Im' μ' w (f v) u
theorem norm_weakV {m : Nat} {keep ids : List Nat} {s : St} (hp : permOK m ids = true) : WeakV P m s (normSt P m keep ids s) (frz P s.hp ids m 100) := by
  unfold permOK at hp
  rw [Bool.and_eq_true, List.all_eq_true, decide_eq_true_eq] at hp
  obtain ⟨hlow1, hnd'⟩ := hp
  have hlow0 : ∀ j, j < m → ids[j]? = some j := fun j hj => by simpa using hlow1 j (by simpa using hj)
  have hlen : m ≤ ids.length := by
    rcases Nat.lt_or_ge ids.length m with h | h
    · have := hlow0 ids.length h
      simp at this
    · exact h
  constructor
  · intro hp0 e hst
    have hget : ∀ b, b < m → s.hp[b]? = some (s.hp.getD b none) := by
      intro b hb
      have : b < s.hp.length := by have := hst.len; omega
      rw [List.getD_eq_getElem?_getD, List.getElem?_eq_getElem this]; rfl
    refine ⟨by simp only [normSt, List.length_map]; omega, fun b hb hn => ?_, fun b hb h => ?_⟩
    · have hnw : b ∉ s.wr := fun h => hn (by simp only [normSt, List.mem_eraseDups, List.mem_filter]; exact ⟨h, by simpa using (show b < m by omega)⟩)
      simp only [normSt]
      rw [List.getElem?_map, hlow0 b (by omega)]
      simp only [Option.map_some]
      rw [if_pos (by simp [hnw, show b < m by omega]), ← hget b (by omega)]
      exact hst.frame b hb hnw
    · obtain ⟨blk, h⟩ := h
      simp only [normSt] at h
      rw [List.getElem?_map, hlow0 b (by omega)] at h
      simp only [Option.map_some, Option.some.injEq] at h
      refine hst.alive b hb ?_
      split at h
      · exact ⟨blk, by rw [hget b (by omega), h]⟩
      · obtain ⟨blk0, h0, _⟩ := Option.map_eq_some_iff.1 h
        exact ⟨blk0, by rw [hget b (by omega), h0]⟩
  · intro hp0 I0 μ0 w0 e a w Im μ C
    subst e
    have hlow : ∀ j, j < hp0.length → ids[j]? = some j := by
      intro j hj
      exact hlow0 j hj
    have hhigh : ∀ j b, hp0.length ≤ j → ids[j]? = some b → hp0.length ≤ b := by
      intro j b hj hb
      rcases Nat.lt_or_ge b hp0.length with h | h
      · have h1 := pos_of hnd' (hlow b h)
        rw [pos_of hnd' hb] at h1
        cases h1; omega
      · exact h
    let μr : Mu := fun j => match ids[j]? with
      | some b => μ b
      | none => none
    have hμr : ∀ j b, ids[j]? = some b → μr j = μ b := by intro j b h; simp [μr, h]
    have hρ : ∀ b b' g, pos ids b = some b' → μ b = some g → μr b' = some g := by
      intro b b' g hb hg; rw [hμr b' b (pos_spec hb)]; exact hg
    let Ir : Nat → Prop := fun k => Im k ∨ ∃ b, b ∉ ids ∧ hp0.length ≤ b ∧ Alive s.hp b ∧ μ b = some k
    have hsub : Sub Im Ir := fun k h => .inl h
    have hnir : ∀ b blk g, b ∈ ids → s.hp[b]? = some (some blk) → μ b = some g → ¬ Ir g := by
      rintro b blk g hbi hb hg (h | ⟨c, hci, _, ⟨blk', hc⟩, hcg⟩)
      · exact (C.holds b blk hb).nimm hg h
      · exact C.inj b c _ _ g (by rintro rfl; exact hci hbi) hb hc hg hcg
    have hE : Evo Im w w (fun _ => False) := .refl _ _
    have frzIn_sound : ∀ (n : Nat) (c : V) (u : Value), V.R P Im μ w c u → V.R P Ir noMu w (frzIn P s.hp ids hp0.length n c) u := by
      intro n
      induction n with
      | zero => intro c u _; simp [frzIn, V.R]
      | succ n ih =>
        have ihL : ∀ (cs : List V) (us : List Value), V.RL P Im μ w cs us → V.RL P Ir noMu w (cs.map (frzIn P s.hp ids hp0.length n)) us := by
          intro cs
          induction cs with
          | nil => intro us h; simpa [V.RL] using h
          | cons c cs ihc =>
            intro us h
            simp only [V.RL] at h
            obtain ⟨u, us', rfl, h1, h2⟩ := h
            simp only [List.map_cons, V.RL]
            exact ⟨u, us', rfl, ih c u h1, ihc us' h2⟩
        intro c u h
        unfold frzIn
        split
        · rename_i b off k full
          split
          · simp [V.R]
          · rename_i hc
            simp only [Bool.or_eq_true, decide_eq_true_eq, not_or] at hc
            split
            · rename_i blk hb
              split
              · rename_i hs0
                split
                · rename_i hoff
                  have hoff' : off = 0 := by simpa using hoff
                  subst hoff'
                  simp only [V.R] at h ⊢
                  obtain ⟨g, cap, e, N, i, hg, rfl, h1, h2, h3, _⟩ := h
                  obtain ⟨g', cs, fr, hg', _, hw, _, h4, h5⟩ := C.holds b blk hb
                  rw [hg] at hg'; cases hg'
                  have h6 := frzSeg_sound (f := frzIn P s.hp ids hp0.length n) ih hsub h5
                  have h7 := h6.length
                  refine ⟨some ⟨g, 0, none⟩, cap, rfl, h1, by simp, .inr ⟨_, _, rfl⟩, .inr ⟨g, 0, rfl, .inr ⟨b, by simpa using hc.1, by omega, ⟨blk, hb⟩, hg⟩, cs, _, fr, hw, ?_⟩⟩
                  rw [List.drop_zero]
                  rw [List.length_take, Nat.min_eq_left (by simpa using h4)] at h7
                  rw [← h7]
                  exact h6
                · simp [V.R]
              · rename_i hs0
                have hfl := flat_noSeal hs0
                split
                · rename_i sz hsz
                  split
                  · rename_i hl
                    simp only [V.R] at h ⊢
                    obtain ⟨g, cap, e, N, i, hg, rfl, h1, h2, h3, _⟩ := h
                    obtain ⟨g', cs, fr, hg', _, hw, _, h4, h5⟩ := C.holds b blk hb
                    rw [hg] at hg'; cases hg'
                    have h5 := h5.toRL
                    rw [hfl] at h4 h5
                    refine ⟨some ⟨g, off, none⟩, cap, rfl, h1, by simp, .inr ⟨_, _, rfl⟩, .inr ⟨g, off, rfl, .inr ⟨b, by simpa using hc.1, by omega, ⟨blk, hb⟩, hg⟩, cs, _, fr, hw, ?_⟩⟩
                    have h6 := (h5.drop off).take (k * sz)
                    rw [List.length_map, hl]
                    have e1 : (cs.toList.drop off).take (k * sz) = ((cs.toList.take blk.1.length).drop off).take (k * sz) := by
                      simp only [List.length_take, List.length_drop] at hl
                      rw [List.drop_take, List.take_take, Nat.min_eq_left (by omega)]
                    rw [e1]
                    exact ihL _ _ h6
                  · simp [V.R]
                · simp [V.R]
            · simp [V.R]
        · simp [V.R]
        · simp only [V.R] at h ⊢; obtain ⟨vs, h1, h2⟩ := h; exact ⟨vs, h1, ihL _ _ h2⟩
        · simp only [V.R] at h ⊢; obtain ⟨vs, h1, h2⟩ := h; exact ⟨vs, h1, ihL _ _ h2⟩
        · simp only [V.R] at h ⊢; obtain ⟨vs, h1, h2⟩ := h; exact ⟨vs, h1, ihL _ _ h2⟩
        · simp only [V.R] at h ⊢
          obtain ⟨a, cap, h1, h2, _, h4, h5⟩ := h
          refine ⟨a, cap, h1, h2, by simp, h4, ?_⟩
          rcases h5 with h5 | ⟨g, off, k1, k2, k3⟩
          · exact .inl h5
          · obtain ⟨cells, e, fr, k4, k5⟩ := k3
            exact .inr ⟨g, off, k1, hsub _ k2, cells, e, fr, k4, k5.keep hE hsub (MuLe.refl _)⟩
        · rename_i h1 h2 h3 h4 h5 h6
          cases c
          case ptr => exact absurd rfl (h2 _ _)
          case sl => exact absurd rfl (h1 _ _ _ _)
          case agg => exact absurd rfl (h3 _)
          case tup => exact absurd rfl (h4 _)
          case fn => exact absurd rfl (h5 _ _)
          case dsl => exact absurd rfl (h6 _ _ _)
          case dptr => exact (h.keep hE hsub (MuLe.refl _) : V.R P Ir μ w _ u) |> (fun h => by simpa only [V.R] using h)
          all_goals (first | (simp only [V.R] at h; done) | (simp only [V.R]; done) | (simp only [V.R] at h ⊢; exact h))
    have frz_sound : ∀ (n : Nat) (c : V) (u : Value), V.R P Im μ w c u → V.R P Ir μr w (frz P s.hp ids hp0.length n c) u := by
      intro n
      induction n with
      | zero => intro c u _; simp [frz, V.R]
      | succ n ih =>
        have ihL : ∀ (cs : List V) (us : List Value), V.RL P Im μ w cs us → V.RL P Ir μr w (cs.map (frz P s.hp ids hp0.length n)) us := by
          intro cs
          induction cs with
          | nil => intro us h; simpa [V.RL] using h
          | cons c cs ihc =>
            intro us h
            simp only [V.RL] at h
            obtain ⟨u, us', rfl, h1, h2⟩ := h
            simp only [List.map_cons, V.RL]
            exact ⟨u, us', rfl, ih c u h1, ihc us' h2⟩
        intro c u h
        unfold frz
        split
        · rename_i b off k full
          split
          · rename_i j hj
            simp only [V.R] at h ⊢
            obtain ⟨g, cap, e, N, i, hg, r⟩ := h
            exact ⟨g, cap, e, N, i, hρ b j g hj hg, r⟩
          · exact R_up (frzIn_sound (n + 1) _ u h)
        · rename_i b off
          split
          · rename_i j hj
            simp only [V.R] at h ⊢
            obtain ⟨g, hg, r⟩ := h
            exact ⟨g, hρ b j g hj hg, r⟩
          · simp [V.R]
        · simp only [V.R] at h ⊢; obtain ⟨vs, h1, h2⟩ := h; exact ⟨vs, h1, ihL _ _ h2⟩
        · simp only [V.R] at h ⊢; obtain ⟨vs, h1, h2⟩ := h; exact ⟨vs, h1, ihL _ _ h2⟩
        · simp only [V.R] at h ⊢; obtain ⟨vs, h1, h2⟩ := h; exact ⟨vs, h1, ihL _ _ h2⟩
        · rename_i h1 h2 h3 h4 h5
          cases c
          case ptr => exact absurd rfl (h2 _ _)
          case sl => exact absurd rfl (h1 _ _ _ _)
          case agg => exact absurd rfl (h3 _)
          case tup => exact absurd rfl (h4 _)
          case fn => exact absurd rfl (h5 _ _)
          case dsl => exact (h.keep hE hsub (MuLe.refl _) : V.R P Ir μ w _ u) |> (fun h => by simpa only [V.R] using h)
          case dptr => exact (h.keep hE hsub (MuLe.refl _) : V.R P Ir μ w _ u) |> (fun h => by simpa only [V.R] using h)
          all_goals (first | (simp only [V.R] at h; done) | (simp only [V.R]; done) | (simp only [V.R] at h ⊢; exact h))
    have hle : MuLe μ0 μr := by
      intro b g hg
      rw [hμr b b (hlow b (C.ent.dom b g hg))]
      exact C.le b g hg
    have hwr : ∀ b, b ∈ ((s.wr.filter fun b => decide (b < hp0.length)).eraseDups) ↔ b ∈ s.wr ∧ b < hp0.length := by intro b; simp
    have hat : ∀ (j : Nat) (blk : Blk), (normSt P hp0.length keep ids s).hp[j]? = some (some blk) → ∃ b, ids[j]? = some b ∧ ((b < hp0.length ∧ b ∉ s.wr ∧ s.hp[b]? = some (some blk)) ∨ ∃ blk0 : Blk, s.hp[b]? = some (some blk0) ∧ blk = (blk0.1.map (frz P s.hp ids hp0.length 100), blk0.2)) := by
      intro j blk h
      simp only [normSt] at h
      rw [List.getElem?_map] at h
      obtain ⟨b, hb, h⟩ := Option.map_eq_some_iff.1 h
      refine ⟨b, hb, ?_⟩
      have hget : ∀ x : Blk, s.hp.getD b none = some x → s.hp[b]? = some (some x) := by
        intro x hx
        rw [List.getD_eq_getElem?_getD] at hx
        cases hq : s.hp[b]? with
        | none => rw [hq] at hx; cases hx
        | some y => rw [hq] at hx; simp at hx; rw [hx]
      split at h
      · rename_i hc
        simp only [Bool.and_eq_true, decide_eq_true_eq, Bool.not_eq_true'] at hc
        exact .inl ⟨hc.1, by simpa using hc.2, hget _ h⟩
      · obtain ⟨blk0, h0, rfl⟩ := Option.map_eq_some_iff.1 h
        exact .inr ⟨blk0, hget _ h0, rfl⟩
    have hat2 : ∀ (j : Nat) (blk : Blk), (normSt P hp0.length keep ids s).hp[j]? = some (some blk) → ∃ (b : Nat) (blk0 : Blk), ids[j]? = some b ∧ s.hp[b]? = some (some blk0) := by
      intro j blk h
      obtain ⟨b, hb, h⟩ := hat j blk h
      rcases h with ⟨_, _, h⟩ | ⟨blk0, h, _⟩
      · exact ⟨b, _, hb, h⟩
      · exact ⟨b, _, hb, h⟩
    have hdead : ∀ c, c < hp0.length → s.hp[c]? = some none → (normSt P hp0.length keep ids s).hp[c]? = some none := by
      intro c hcl hcn
      simp only [normSt]
      rw [List.getElem?_map, hlow c hcl]
      simp only [Option.map_some, List.getD_eq_getElem?_getD, hcn, Option.getD_some, Option.map_none]
      split <;> rfl
    have hget : ∀ b, b < hp0.length → s.hp[b]? = some (s.hp.getD b none) := by
      intro b hb
      have : b < s.hp.length := by have := C.len; omega
      rw [List.getD_eq_getElem?_getD, List.getElem?_eq_getElem this]; rfl
    refine ⟨Ir, μr, ?_, fun v u h => frz_sound 100 v u h⟩
    refine ⟨fun t => ?_, ?_, C.defers, fun j blk h => ?_, fun j k b1 b2 g hne h1 h2 g1 g2 => ?_, fun j g hg => ?_, fun j g hg hj => ?_, ?_, hle, fun j hj blk h g hg => ?_, ?_, fun b hb hn => ?_, fun b hb h => ?_, fun b hb hb0 => ?_, fun k h => .inl (C.isub k h), fun k hk => ?_, fun k hk => ?_, C.ent⟩
    · show V.R P Ir μr w ((normTm P s.hp ids hp0.length s.tm keep ⟨s.tm.n, Tr.mk0 11⟩).get t) _
      have h0 : (⟨s.tm.n, Tr.mk0 11⟩ : Tm).get t = .junk := by
        unfold Tm.get
        cases Nat.blt t s.tm.n
        · rfl
        · exact Tr.mk0_get _ _
      rcases normTm_get (P := P) s.hp ids hp0.length s.tm t keep ⟨s.tm.n, Tr.mk0 11⟩ with h | h | h
      · rw [h, h0]; simp [V.R]
      · rw [h]; simp [V.R]
      · rw [h]; exact frz_sound 100 _ _ (C.tm t)
    · show a.tmps.size = (normTm P s.hp ids hp0.length s.tm keep ⟨s.tm.n, Tr.mk0 11⟩).n
      rw [normTm_n]; exact C.size
    · obtain ⟨b, hb, h⟩ := hat j blk h
      rcases h with ⟨hbl, hnw, h⟩ | ⟨blk0, h0, rfl⟩
      · have hj : j = b := by
          have h1 := pos_of hnd' (hlow b hbl)
          rw [pos_of hnd' hb] at h1
          cases h1; rfl
        subst hj
        have h0 : hp0[j]? = some (some blk) := by rw [← C.frame j hbl hnw]; exact h
        refine (C.ent.holds j blk h0).keep C.evo (fun k h => .inl (C.isub k h)) hle (fun g hg hx => ?_) (fun g hg => hnir j blk g (List.mem_of_getElem? hb) h (C.le j g hg))
        obtain ⟨c, hcw, hcg⟩ := hx
        have hcl := C.ent.dom c g hcg
        obtain ⟨blk', hca⟩ := C.wal c hcw hcl
        exact C.ent.inj j c _ _ g (by rintro rfl; exact hnw hcw) h0 hca hg hcg
      · obtain ⟨g, cs, fr, hg, hni, hw, h3, h4, h5⟩ := C.holds b blk0 h0
        have h6 := mapSeg_sound (f := frz P s.hp ids hp0.length 100) (fun c u h => frz_sound 100 c u h) (fun _ => rfl) hsub h5
        have h7 : (flat (blk0.1.map (frz P s.hp ids hp0.length 100))).length = (flat blk0.1).length := by
          have := h6.toRL.length
          rw [List.length_take, Nat.min_eq_left (by simpa using h4)] at this
          exact this.symm
        refine ⟨g, cs, fr, by rw [hμr j b hb]; exact hg, hnir b blk0 g (List.mem_of_getElem? hb) h0 hg, hw, h3, ?_, ?_⟩
        · show (flat (blk0.1.map (frz P s.hp ids hp0.length 100))).length ≤ _
          rw [h7]; exact h4
        · show CR P Ir μr w (blk0.1.map (frz P s.hp ids hp0.length 100)) (List.take (flat (blk0.1.map (frz P s.hp ids hp0.length 100))).length _)
          rw [h7]; exact h6
    · obtain ⟨b, blk0, hb, h0⟩ := hat2 j b1 h1
      obtain ⟨c, blk1, hc, h1⟩ := hat2 k b2 h2
      rw [hμr j b hb] at g1
      rw [hμr k c hc] at g2
      refine C.inj b c _ _ g (fun e => hne ?_) h0 h1 g1 g2
      subst e
      have h3 := pos_of hnd' hb
      rw [pos_of hnd' hc] at h3
      cases h3; rfl
    · cases hq : ids[j]? with
      | none => simp [μr, hq] at hg
      | some b => simpa [normSt] using (List.getElem?_eq_some_iff.1 hq).1
    · rw [hμr j j (hlow j hj)] at hg
      exact C.dom0 j g hg hj
    · exact C.evo.mono fun k hk => by
        obtain ⟨b, hb, hg⟩ := hk
        exact ⟨b, (hwr b).2 ⟨hb, C.ent.dom b k hg⟩, hg⟩
    · obtain ⟨b, blk0, hb, h0⟩ := hat2 j blk h
      rw [hμr j b hb] at hg
      rcases C.prov b (hhigh j b hj hb) blk0 h0 g hg with h | ⟨c, hcw, hcl, hcg, hca, hcn⟩
      · exact .inl h
      · exact .inr ⟨c, (hwr c).2 ⟨hcw, hcl⟩, hcl, hcg, hca, hdead c hcl hcn⟩
    · simp only [normSt, List.length_map]; exact hlen
    · have hnw : b ∉ s.wr := fun h => hn ((hwr b).2 ⟨h, hb⟩)
      simp only [normSt]
      rw [List.getElem?_map, hlow b hb]
      simp only [Option.map_some]
      rw [if_pos (by simp [hnw, hb]), ← hget b hb]
      exact C.frame b hb hnw
    · obtain ⟨blk, h⟩ := h
      obtain ⟨c, blk0, hc, h0⟩ := hat2 b blk h
      rw [hlow b hb] at hc; cases hc
      exact C.alive b hb ⟨blk0, h0⟩
    · exact C.wal b ((hwr b).1 hb).1 hb0
    · rcases hk with h | ⟨b, hbi, hbl, ⟨blk, hb⟩, hg⟩
      · rcases C.igrow k h with h | h | ⟨c, hcw, hcl, hcg, hca, hcn⟩
        · exact .inl h
        · exact .inr (.inl h)
        · exact .inr (.inr ⟨c, (hwr c).2 ⟨hcw, hcl⟩, hcl, hcg, hca, hdead c hcl hcn⟩)
      · rcases C.prov b hbl blk hb k hg with h | ⟨c, hcw, hcl, hcg, hca, hcn⟩
        · exact .inr (.inl h)
        · exact .inr (.inr ⟨c, (hwr c).2 ⟨hcw, hcl⟩, hcl, hcg, hca, hdead c hcl hcn⟩)
    · rcases hk with h | ⟨b, _, _, ⟨blk, hb⟩, hg⟩
      · exact C.ilt k h
      · exact (C.holds b blk hb).lt hg

theorem norm_weak {m : Nat} {keep ids : List Nat} {s : St} (hp : permOK m ids = true) : Weak P m s (normSt P m keep ids s) :=
  ⟨(norm_weakV hp).st, fun e _ _ _ _ C => by
    obtain ⟨I', μ', h, _⟩ := (norm_weakV (keep := keep) hp).run e C
    exact ⟨I', μ', h⟩⟩

theorem Weak.refl (m : Nat) (s : St) : Weak P m s s := ⟨fun _ _ h => h, fun _ _ _ _ _ C => ⟨_, _, C⟩⟩
theorem Weak.trans {m : Nat} {a b c : St} (h : Weak P m a b) (k : Weak P m b c) : Weak P m a c :=
  ⟨fun hp0 e hs => k.st hp0 e (h.st hp0 e hs), fun e _ _ _ _ C => by
    obtain ⟨_, _, C'⟩ := h.run e C
    exact k.run e C'⟩
/-- What is known of s is known of s', by the same names. -/
structure WeakS (P : Program) (m : Nat) (s s' : St) : Prop where
  st : ∀ hp0 : Hp, hp0.length = m → SR hp0 s → SR hp0 s'
  run : ∀ {hp0 : Hp} {I0 : Nat → Prop} {μ0 : Mu} {w0 : World}, hp0.length = m → ∀ {a : Act} {w : World} {Im : Nat → Prop} {μ : Mu}, CI P hp0 I0 μ0 w0 s a w Im μ → CI P hp0 I0 μ0 w0 s' a w Im μ
theorem WeakS.refl (m : Nat) (s : St) : WeakS P m s s := ⟨fun _ _ h => h, fun _ _ _ _ _ C => C⟩
theorem WeakS.trans {m : Nat} {a b c : St} (h : WeakS P m a b) (k : WeakS P m b c) : WeakS P m a c := ⟨fun hp0 e hs => k.st hp0 e (h.st hp0 e hs), fun e _ _ _ _ C => k.run e (h.run e C)⟩
theorem WeakS.weak {m : Nat} {a b : St} (h : WeakS P m a b) : Weak P m a b := ⟨h.st, fun e _ _ _ _ C => ⟨_, _, h.run e C⟩⟩
theorem seal_same {m b : Nat} {s : St} : WeakS P m s (sealSt m b s) := by
  generalize h : sealSt m b s = s'
  unfold sealSt at h
  split at h
  case h_2 => subst h; exact .refl m s
  case h_1 blk hb =>
  split at h
  case h_2 => subst h; exact .refl m s
  case h_1 hm h2 =>
  subst h
  have hm' : m ≤ b := Nat.le_of_ble_eq_true (by simp only [Bool.and_eq_true] at hm; exact hm.1)
  have hbl : b < s.hp.length := at_lt hb
  have hat : ∀ (k : Nat) (blk' : Blk), (s.hp.set b (some ([V.sld (flatC blk.1)], blk.2)))[k]? = some (some blk') → (k = b ∧ blk' = ([V.sld (flatC blk.1)], blk.2)) ∨ (k ≠ b ∧ s.hp[k]? = some (some blk')) := by
    intro k blk' h
    rw [List.getElem?_set] at h
    split at h
    · rename_i e
      cases h; exact .inl ⟨e.symm, rfl⟩
    · rename_i e; exact .inr ⟨fun x => e x.symm, h⟩
  have hat2 : ∀ (k : Nat) (blk' : Blk), (s.hp.set b (some ([V.sld (flatC blk.1)], blk.2)))[k]? = some (some blk') → ∃ blk0, s.hp[k]? = some (some blk0) := by
    intro k blk' h
    rcases hat k blk' h with ⟨rfl, _⟩ | ⟨_, h⟩
    · exact ⟨_, hb⟩
    · exact ⟨_, h⟩
  have hne : ∀ k, k < m → (s.hp.set b (some ([V.sld (flatC blk.1)], blk.2)))[k]? = s.hp[k]? := fun k hk => by rw [List.getElem?_set, if_neg (by omega)]
  have hdead : ∀ k : Nat, s.hp[k]? = some none → (s.hp.set b (some ([V.sld (flatC blk.1)], blk.2)))[k]? = some none := by
    intro k hk
    rw [List.getElem?_set, if_neg (by rintro rfl; rw [hb] at hk; cases hk)]
    exact hk
  constructor
  · intro hp0 e hs
    subst e
    refine ⟨by simpa using hs.len, fun k hk hn => by show (s.hp.set b _)[k]? = _; rw [hne k hk]; exact hs.frame k hk hn, fun k hk ⟨blk', hal⟩ => hs.alive k hk (hat2 k blk' hal)⟩
  · intro hp0 I0 μ0 w0 e a w Im μ C
    subst e
    refine ⟨C.tm, C.size, C.defers, fun k blk' h => ?_, fun k j b1 b2 g hkj h1 h2 g1 g2 => ?_, fun k g hg => by simpa using C.dom k g hg, C.dom0, C.evo, C.le, fun k hk blk' h g hg => ?_, by simpa using C.len, fun k hk hn => by show (s.hp.set b _)[k]? = _; rw [hne k hk]; exact C.frame k hk hn, fun k hk ⟨blk', hal⟩ => C.alive k hk (hat2 k blk' hal), C.wal, C.isub, fun k hk => ?_, C.ilt, C.ent⟩
    · rcases hat k blk' h with ⟨rfl, rfl⟩ | ⟨_, h⟩
      · obtain ⟨g, cs, fr, k1, k2, k3, k4, k5, k6⟩ := C.holds k blk hb
        have h7 := k6.nomuC h2
        have h8 : (flatC blk.1).length = (flat blk.1).length := by
          have := h7.length
          rw [List.length_take, Nat.min_eq_left (by simpa using k5)] at this
          exact this.symm
        exact .sld k1 k2 k3 k4 (by rw [h8]; exact k5) (by rw [h8]; exact h7)
      · exact C.holds k blk' h
    · obtain ⟨_, k1⟩ := hat2 k b1 h1
      obtain ⟨_, k2⟩ := hat2 j b2 h2
      exact C.inj k j _ _ g hkj k1 k2 g1 g2
    · obtain ⟨_, k1⟩ := hat2 k blk' h
      rcases C.prov k hk _ k1 g hg with h | ⟨d, h1, h2, h3, h4, h5⟩
      · exact .inl h
      · exact .inr ⟨d, h1, h2, h3, h4, hdead d h5⟩
    · rcases C.igrow k hk with h | h | ⟨d, h1, h2, h3, h4, h5⟩
      · exact .inl h
      · exact .inr (.inl h)
      · exact .inr (.inr ⟨d, h1, h2, h3, h4, hdead d h5⟩)

theorem sealAll_same {m : Nat} : ∀ (bs : List Nat) (s : St), WeakS P m s (sealAll m bs s)
  | [], s => .refl m s
  | b :: bs, s => seal_same.trans (sealAll_same bs _)
theorem sealAll_weak {m : Nat} (bs : List Nat) (s : St) : Weak P m s (sealAll m bs s) := (sealAll_same bs s).weak
mutual
def V.ptrs : V → List Nat
  | .ptr b _ => [b]
  | .agg cs => V.ptrsL cs
  | .tup cs => V.ptrsL cs
  | .fn _ cs => V.refsL cs
  | _ => []
def V.ptrsL : List V → List Nat
  | [] => []
  | c :: cs => V.ptrs c ++ V.ptrsL cs
end
/-- What is kept of a state: these temporaries; these blocks, and which of them are sealed (none: what is reached; slices are sealed). -/
structure Kp where
  keep : List Nat
  perm : Option (List Nat × List Nat) := none
  wr : List Nat := []
def Kp.ids (k : Kp) (m : Nat) (s : St) : List Nat := match k.perm with
  | some p => p.1
  | none => reach s.hp 100000 (k.keep.flatMap fun i => (s.tm.get i).refs) (List.range m)
def Kp.seals (k : Kp) (m : Nat) (s : St) : List Nat := match k.perm with
  | some p => p.2
  | none => (List.range (k.ids m s).length).filter fun j => Nat.ble m j && !((k.keep.flatMap fun i => (s.tm.get i).ptrs) ++ (k.ids m s).flatMap fun b => match s.hp.getD b none with | some blk => V.ptrsL blk.1 | none => []).contains ((k.ids m s).getD j 0)
/-- The state that is kept. -/
def wrS (m : Nat) (ws : List Nat) (s : St) : St := match ws with
  | [] => s
  | _ :: _ => match (ws.all fun b => decide (b < m) && (match s.hp[b]? with | some (some _) => true | _ => false)) && s.wr.all fun b => ws.contains b with
    | true => ⟨s.tm, s.hp, ws⟩
    | false => s
theorem wrS_same {m : Nat} {ws : List Nat} {s : St} : WeakS P m s (wrS m ws s) := by
  unfold wrS
  split
  · exact .refl m s
  split
  case h_2 => exact .refl m s
  rename_i hc
  rw [Bool.and_eq_true, List.all_eq_true, List.all_eq_true] at hc
  obtain ⟨h1, h2⟩ := hc
  have hsub : ∀ b ∈ s.wr, b ∈ _ := fun b hb => by simpa only [List.contains_iff_mem] using h2 b hb
  constructor
  · intro hp0 e C
    exact ⟨C.len, fun b hb hn => C.frame b hb fun h => hn (hsub b h), C.alive⟩
  · intro hp0 I0 μ0 w0 e a w Im μ C
    subst e
    refine ⟨C.tm, C.size, C.defers, C.holds, C.inj, C.dom, C.dom0, C.evo.mono fun k ⟨b, hb, hg⟩ => ⟨b, hsub b hb, hg⟩, C.le, fun b hb blk hk g hg => ?_, C.len, fun b hb hn => C.frame b hb fun h => hn (hsub b h), C.alive, fun b hb hl => ?_, C.isub, fun k hk => ?_, C.ilt, C.ent⟩
    · rcases C.prov b hb blk hk g hg with h | ⟨c, k1, k2⟩
      · exact .inl h
      · exact .inr ⟨c, hsub c k1, k2⟩
    · have := h1 b hb
      rw [Bool.and_eq_true] at this
      refine C.alive b hl ?_
      have h3 := this.2
      split at h3
      · rename_i blk hb; exact ⟨blk, hb⟩
      · cases h3
    · rcases C.igrow k hk with h | h | ⟨c, k1, k2⟩
      · exact .inl h
      · exact .inr (.inl h)
      · exact .inr (.inr ⟨c, hsub c k1, k2⟩)
def normS (P : Program) (m : Nat) (k : Kp) (s : St) : St := wrS m k.wr (sealAll m (k.seals m s) (normSt P m k.keep (k.ids m s) s))
theorem normS_weak {m : Nat} {k : Kp} {s : St} (hp : permOK m (k.ids m s) = true) : Weak P m s (normS P m k s) := ((norm_weak hp).trans (sealAll_weak _ _)).trans wrS_same.weak

/-- Behind a call: these blocks keep their names. -/
def gc (P : Program) (m : Nat) (ids seals : List Nat) (v : V) (s : St) : Ret := ⟨V.can (frz P s.hp ids m 100 v), (sealAll m seals (normSt P m [] ids s)).hp, (sealAll m seals (normSt P m [] ids s)).wr⟩

theorem sealAll_wr {m : Nat} : ∀ (bs : List Nat) (s : St), (sealAll m bs s).wr = s.wr
  | [], s => rfl
  | b :: bs, s => by
    unfold sealAll
    rw [sealAll_wr bs]
    unfold sealSt
    split
    · split <;> rfl
    · rfl

theorem gc_sound {hp0 : Hp} {I0 Im : Nat → Prop} {μ0 μ : Mu} {w0 w : World} {s : St} {a : Act} {v : V} {val : Value} {ids seals : List Nat} (hp : permOK hp0.length ids = true) (C : CI P hp0 I0 μ0 w0 s a w Im μ) (hdom : ∀ b g, μ0 b = some g → b < hp0.length) (hv : V.R P Im μ w v val) :
    ∃ μr Ir, V.R P Ir μr w (gc P hp0.length ids seals v s).v val ∧ Good P I0 Ir μ0 μr w0 w hp0 (gc P hp0.length ids seals v s).hp (List.range hp0.length) (gc P hp0.length ids seals v s).wr := by
  obtain ⟨Ir, μr, C1, hV⟩ := (norm_weakV (keep := []) hp).run rfl C
  have C' := (sealAll_same (P := P) seals (normSt P hp0.length [] ids s)).run rfl C1
  refine ⟨μr, Ir, R_can _ _ (hV _ _ hv), ⟨C'.isub, fun k hk => ?_, C'.evo, C'.le, fun b g hg => ?_, fun b _ blk h => C'.holds b blk h, fun b hb blk h g hg => ?_, fun b c b1 b2 g hne _ _ h1 h2 => C'.inj b c b1 b2 g hne h1 h2⟩⟩
  · rcases C'.igrow k hk with h | h | ⟨c, hcw, hcl, hcg, hca, hcn⟩
    · exact .inl h
    · exact .inr (.inl ⟨h, C'.ilt k hk⟩)
    · exact .inr (.inr ⟨c, hcw, hcg, hca, hcn⟩)
  · by_cases hb : b < hp0.length
    · exact .inl (C'.dom0 b g hg hb)
    · exact .inr ⟨by omega, C'.dom b g hg⟩
  · rcases C'.prov b hb blk h g hg with h | ⟨c, hcw, hcl, hcg, hca, hcn⟩
    · exact .inl h
    · exact .inr ⟨c, hcw, hcg, hca, hcn⟩
theorem gc_tidy {hp0 : Hp} {s : St} {v : V} {ids seals : List Nat} (hp : permOK hp0.length ids = true) (C : SR hp0 s) : FnTidy hp0 (gc P hp0.length ids seals v s) := by
  have C' := (sealAll_same (P := P) seals (normSt P hp0.length [] ids s)).st hp0 rfl ((norm_weakV (P := P) (keep := []) hp).st hp0 rfl C)
  exact ⟨C'.len, fun b hb hn => C'.frame b hb hn, fun b hb => by simp only [gc, sealAll_wr, normSt, List.mem_eraseDups, List.mem_filter, decide_eq_true_eq] at hb; exact hb.2, C'.alive⟩

end
end Go.Proofs.YtlimecojoiimaaaGreat

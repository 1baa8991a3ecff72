/-
  The small evaluator's plain operations: the whole.
-/
import Derived.Test.YtalhlpfjjbbfnaaVf
namespace Go.Proofs.Ytalhlpfjjbbfnaa
open Go.RowKit

section
variable {P : Program} {μ μ' : Mu} {w w' : World} {hp : Hp} {out : Out}

def OptR (P : Program) (μ : Mu) (w : World) : Option V → Option Value → Prop
  | none, v => v = none
  | some x, v => ∃ u, v = some u ∧ V.R P μ w x u

theorem bound_sound {x : V} {vx : Value} {d lim lim' k : Nat} {code : BoundsCode} (h : evBound (some x) d lim = some k) (hx : V.R P μ w x vx) (hl : lim ≤ lim') : (Instr.sliceBound vx lim' code).run P w = .ok k w ∧ k ≤ lim := by
  unfold evBound at h
  split at h
  · rename_i e; cases e
  · rename_i kk i e
    cases e
    split at h
    · rename_i hc
      cases h
      simp only [V.R] at hx
      subst hx
      exact ⟨run_sliceBound w kk i lim' code hc.1 (by omega), by omega⟩
    · cases h
  · cases h

theorem run_slice_gen {t e : TypeId} {s : Nat} (hu : P.underlying t = some (.slice e)) (hs : szOf P e = some s) (a : Option Addr) (len cap : Nat) (lo hi mx : Option Value) (l h m : Nat)
    (hb : (Instr.sliceBounds true len cap lo hi mx).run P w = .ok (l, h, m) w) : (Instr.sliceAt t (.slice a len cap) lo hi mx).run P w = .ok (.slice (if m = l then a else a.map (·.add (l * s))) (h - l) (m - l)) w := by
  simp only [Instr.sliceAt, Sem.run_bind, run_underlying hu, Result.andThen_ok, Instr.slice, hb, run_sizeOf hs, Sem.run_pure]

theorem bounds_none {isS : Bool} {n cap k h : Nat} {lo hi : Option V} {vl vh : Option Value} (h1 : evBound hi n n = some h) (h2 : evBound lo 0 h = some k) (hlo : OptR P μ w lo vl) (hhi : OptR P μ w hi vh) (hn : n ≤ cap) :
    (Instr.sliceBounds isS n cap vl vh none).run P w = .ok (k, h, cap) w ∧ k ≤ h ∧ h ≤ n := by
  have hh : (hi = none ∧ vh = none ∧ h = n) ∨ ∃ u, vh = some u ∧ h ≤ n ∧ ∀ code, (Instr.sliceBound u cap code).run P w = .ok h w := by
    cases hi with
    | none => simp only [OptR] at hhi; subst hhi; cases h1; exact .inl ⟨rfl, rfl, rfl⟩
    | some x =>
      simp only [OptR] at hhi
      obtain ⟨u, rfl, hu⟩ := hhi
      exact .inr ⟨u, rfl, (bound_sound (code := .sliceAcap) h1 hu hn).2, fun code => (bound_sound (code := code) h1 hu hn).1⟩
  have hk : (lo = none ∧ vl = none ∧ k = 0) ∨ ∃ u, vl = some u ∧ k ≤ h ∧ ∀ code, (Instr.sliceBound u h code).run P w = .ok k w := by
    cases lo with
    | none => simp only [OptR] at hlo; subst hlo; cases h2; exact .inl ⟨rfl, rfl, rfl⟩
    | some x =>
      simp only [OptR] at hlo
      obtain ⟨u, rfl, hu⟩ := hlo
      exact .inr ⟨u, rfl, (bound_sound (code := .sliceB) h2 hu (Nat.le_refl _)).2, fun code => (bound_sound (code := code) h2 hu (Nat.le_refl _)).1⟩
  rcases hh with ⟨_, rfl, rfl⟩ | ⟨u, rfl, hle, hc⟩ <;> rcases hk with ⟨_, rfl, rfl⟩ | ⟨v, rfl, hle', hd⟩
  · exact ⟨rfl, by omega, by omega⟩
  · exact ⟨by simp [Instr.sliceBounds, hd], by omega, by omega⟩
  · exact ⟨by simp [Instr.sliceBounds, hc], by omega, by omega⟩
  · exact ⟨by simp [Instr.sliceBounds, hc, hd], by omega, by omega⟩

theorem bounds_max {n cap k h m : Nat} {lo : Option V} {hi mx : V} {vl : Option Value} {vh vm : Value} (h0 : evBound (some mx) 0 n = some m) (h1 : evBound (some hi) 0 m = some h) (h2 : evBound lo 0 h = some k) (hlo : OptR P μ w lo vl) (hhi : V.R P μ w hi vh) (hmx : V.R P μ w mx vm) (hn : n ≤ cap) :
    (Instr.sliceBounds true n cap vl (some vh) (some vm)).run P w = .ok (k, h, m) w ∧ k ≤ h ∧ h ≤ m ∧ m ≤ n := by
  obtain ⟨a1, a2⟩ := bound_sound (code := .slice3Acap) h0 hmx hn
  obtain ⟨b1, b2⟩ := bound_sound (code := .slice3B) h1 hhi (Nat.le_refl _)
  have hk : (lo = none ∧ vl = none ∧ k = 0) ∨ ∃ u, vl = some u ∧ k ≤ h ∧ ∀ code, (Instr.sliceBound u h code).run P w = .ok k w := by
    cases lo with
    | none => simp only [OptR] at hlo; subst hlo; cases h2; exact .inl ⟨rfl, rfl, rfl⟩
    | some x =>
      simp only [OptR] at hlo
      obtain ⟨u, rfl, hu⟩ := hlo
      exact .inr ⟨u, rfl, (bound_sound (code := .sliceB) h2 hu (Nat.le_refl _)).2, fun code => (bound_sound (code := code) h2 hu (Nat.le_refl _)).1⟩
  rcases hk with ⟨_, rfl, rfl⟩ | ⟨v, rfl, hle', hd⟩
  · exact ⟨by simp [Instr.sliceBounds, a1, b1], by omega, by omega, by omega⟩
  · exact ⟨by simp [Instr.sliceBounds, a1, b1, hd], by omega, by omega, by omega⟩

theorem slice_sound {t : TypeId} {x : V} {vx : Value} {lo hi mx : Option V} {vl vh vm : Option Value} (h : evSlice P hp t x lo hi mx = some out) (hx : V.R P μ w x vx) (hlo : OptR P μ w lo vl) (hhi : OptR P μ w hi vh) (hmx : OptR P μ w mx vm)
    (pre : Pre P μ w hp out.acc out.hp.length) :
    out.hp = hp ∧ out.wr = [] ∧ (∀ b ∈ out.acc, b < hp.length) ∧ ∃ val, (Instr.sliceAt t vx vl vh vm).run P w = .ok val w ∧ V.R P μ w out.v val := by
  unfold evSlice at h
  split at h
  · rename_i l
    simp only [V.R] at hx; simp only [OptR] at hmx
    subst hx hmx
    split at h
    case h_2 => cases h
    case h_1 hh hu hhb =>
    split at h
    case h_2 => cases h
    case h_1 k hkb =>
    cases h
    obtain ⟨hb, h1, h2⟩ := bounds_none (isS := false) (P := P) (w := w) (cap := l.length) hhb hkb hlo hhi (Nat.le_refl _)
    refine ⟨rfl, rfl, by simp, .string ((⟨l.toArray⟩ : ByteArray).extract k hh), ?_, ?_⟩
    · have hsz : (⟨l.toArray⟩ : ByteArray).size = l.length := rfl
      simp only [Instr.sliceAt, Sem.run_bind, run_underlying hu, Result.andThen_ok, Instr.slice, hsz, hb, Sem.run_pure, Option.isSome_none, Bool.false_eq_true, if_false]
    · simp only [V.R]
      congr 1
      apply ByteArray.ext
      simp [ByteArray.data_extract, List.extract_eq_take_drop, List.drop_take]
  · simp only [V.R] at hx; simp only [OptR] at hmx
    subst hx hmx
    split at h
    case h_2 => cases h
    case h_1 e hh hu hhb =>
    split at h
    case h_2 => cases h
    case h_1 s k hs hkb =>
    cases h
    obtain ⟨hb, h1, h2⟩ := bounds_none (isS := true) (P := P) (w := w) (cap := 0) hhb hkb hlo hhi (Nat.le_refl _)
    obtain rfl : hh = 0 := by omega
    obtain rfl : k = 0 := by omega
    exact ⟨rfl, rfl, by simp, _, run_slice_gen hu hs none 0 0 vl vh none 0 0 0 hb, by simp [V.R]⟩
  · simp only [V.R] at hx; simp only [OptR] at hmx
    obtain ⟨vm', rfl, hmx⟩ := hmx
    subst hx
    split at h
    case h_2 => cases h
    case h_1 e m hi' hu hmb =>
    split at h
    case h_2 => cases h
    case h_1 hh hhb =>
    split at h
    case h_2 => cases h
    case h_1 k s hkb hs =>
    cases h
    simp only [OptR] at hhi
    obtain ⟨vh', rfl, hhi⟩ := hhi
    obtain ⟨hb, h1, h2, h3⟩ := bounds_max (P := P) (w := w) (cap := 0) (n := 0) hmb hhb hkb hlo hhi hmx (Nat.le_refl _)
    obtain rfl : m = 0 := by omega
    obtain rfl : hh = 0 := by omega
    obtain rfl : k = 0 := by omega
    exact ⟨rfl, rfl, by simp, _, run_slice_gen hu hs none 0 0 vl (some vh') (some vm') 0 0 0 hb, by simp [V.R]⟩
  · rename_i b off n full
    simp only [V.R] at hx; simp only [OptR] at hmx
    obtain ⟨g, cap, e', N, i, hg, rfl, hncap, hcm, hfull, hsh, hi', hN⟩ := hx
    subst hmx
    split at h
    case h_2 => cases h
    case h_1 e hh blk hu hhb hblk =>
    have hbl : b < hp.length := (List.getElem?_eq_some_iff.1 hblk).1
    split at h
    case h_2 => cases h
    case h_1 k s hkb hs hel =>
    have hacc : b ∈ out.acc := by
      split at h
      · cases h; simp
      · split at h <;> (cases h; simp)
    obtain ⟨g', cs, fr, hg', hw, _⟩ := pre.holds b hacc blk hblk
    rw [hg] at hg'; cases hg'
    have hshape := shape_of hw
    rw [hsh] at hshape
    cases hshape
    rw [eq_of_beq hel] at hi'
    have hsz : i.size = s := by unfold szOf at hs; rw [hi'] at hs; simpa using hs
    subst hsz
    obtain ⟨hb, h1, h2⟩ := bounds_none (isS := true) (P := P) (w := w) hhb hkb hlo hhi hncap
    have hr := run_slice_gen (P := P) (w := w) hu hs (some ⟨g, off, none⟩) n cap vl vh none k hh cap hb
    have hfull' : (full && hh == n) = true → cap = hh := by
      intro hf; simp at hf; have := hfull hf.1; omega
    split at h
    · rename_i hk0
      cases h
      subst hk0
      refine ⟨rfl, rfl, by simpa using hbl, _, hr, ?_⟩
      simp only [V.R]
      refine ⟨g, cap, _, _, i, hg, ?_, by omega, hcm, hfull', hsh, by rw [eq_of_beq hel]; exact hi', hN⟩
      split <;> simp [Addr.add]
    · split at h
      · cases h
        refine ⟨rfl, rfl, by simpa using hbl, _, hr, ?_⟩
        rw [if_neg (show ¬ cap = k by omega)]
        split
        · rename_i e1
          simp only [V.R]
          exact ⟨(⟨g, off, none⟩ : Addr).add (k * i.size), cap - k, by rw [e1, Nat.sub_self]; rfl, by simp⟩
        · simp only [V.R]
          rename_i hk0 hkn hne
          have hmul : k * i.size + (cap - k) * i.size = cap * i.size := by rw [← Nat.add_mul]; congr 1; omega
          exact ⟨g, cap - k, _, _, i, hg, by simp [Addr.add_mid], by omega, by omega, fun hf => by have := hfull' hf; omega, hsh, by rw [eq_of_beq hel]; exact hi', by omega⟩
      · cases h
        obtain rfl : k = n := by omega
        obtain rfl : hh = k := by omega
        refine ⟨rfl, rfl, by simpa using hbl, _, hr, ?_⟩
        simp only [V.R]
        refine ⟨if cap = hh then ⟨g, off, none⟩ else (⟨g, off, none⟩ : Addr).add (hh * i.size), cap - hh, ?_, fun hf => by have := hfull hf; omega⟩
        split <;> simp
  · rename_i b off n full m
    simp only [V.R] at hx; simp only [OptR] at hmx
    obtain ⟨g, cap, e', N, i, hg, rfl, hncap, hcm, hfull, hsh, hi', hN⟩ := hx
    obtain ⟨vm', rfl, hmx⟩ := hmx
    split at h
    case h_2 => cases h
    case h_1 e m hi0 blk hu hmb hblk =>
    have hbl : b < hp.length := (List.getElem?_eq_some_iff.1 hblk).1
    simp only [OptR] at hhi
    obtain ⟨vh', rfl, hhi⟩ := hhi
    split at h
    case h_2 => cases h
    case h_1 hh hhb =>
    split at h
    case h_2 => cases h
    case h_1 k s hkb hs hel =>
    have hacc : b ∈ out.acc := by
      split at h <;> (cases h; simp)
    obtain ⟨g', cs, fr, hg', hw, _⟩ := pre.holds b hacc blk hblk
    rw [hg] at hg'; cases hg'
    have hshape := shape_of hw
    rw [hsh] at hshape
    cases hshape
    rw [eq_of_beq hel] at hi'
    have hsz : i.size = s := by unfold szOf at hs; rw [hi'] at hs; simpa using hs
    subst hsz
    obtain ⟨hb, h1, h2, h3⟩ := bounds_max (P := P) (w := w) hmb hhb hkb hlo hhi hmx hncap
    have hr := run_slice_gen (P := P) (w := w) hu hs (some ⟨g, off, none⟩) n cap vl (some vh') (some vm') k hh m hb
    split at h
    · rename_i ek
      cases h
      subst ek
      refine ⟨rfl, rfl, by simpa using hbl, _, hr, ?_⟩
      simp only [V.R]
      refine ⟨if m = k then ⟨g, off, none⟩ else (⟨g, off, none⟩ : Addr).add (k * i.size), m - k, ?_, fun hf => by have := eq_of_beq hf; omega⟩
      split <;> simp
    · rename_i ek
      cases h
      refine ⟨rfl, rfl, by simpa using hbl, _, hr, ?_⟩
      rw [if_neg (show ¬ m = k by omega)]
      simp only [V.R]
      have hmul : k * i.size + (m - k) * i.size = m * i.size := by rw [← Nat.add_mul]; congr 1; omega
      have hmul2 : m * i.size ≤ cap * i.size := Nat.mul_le_mul_right _ (by omega)
      exact ⟨g, m - k, _, _, i, hg, by simp [Addr.add_mid], by omega, by omega, fun hf => by have := eq_of_beq hf; omega, hsh, by rw [eq_of_beq hel]; exact hi', by omega⟩
  · cases h

end
end Go.Proofs.Ytalhlpfjjbbfnaa

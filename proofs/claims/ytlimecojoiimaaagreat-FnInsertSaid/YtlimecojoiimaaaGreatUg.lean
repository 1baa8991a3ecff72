/-
  The small evaluator's plain operations: the whole.
-/
import Derived.Test.YtlimecojoiimaaaGreatUf
namespace Go.Proofs.YtlimecojoiimaaaGreat
open Go.RowKit

section
variable {P : Program} {I : Nat → Prop} {μ μ' : Mu} {w w' : World} {hp : Hp} {out : Out}

def OptR (P : Program) (I : Nat → Prop) (μ : Mu) (w : World) : Option V → Option Value → Prop
  | none, v => v = none
  | some x, v => ∃ u, v = some u ∧ V.R P I μ w x u

theorem bound_sound {x : V} {vx : Value} {d lim lim' k : Nat} {code : BoundsCode} (h : evBound (some x) d lim = some k) (hx : V.R P I μ w x vx) (hl : lim ≤ lim') : (Instr.sliceBound vx lim' code).run P w = .ok k w ∧ k ≤ lim := by
  unfold evBound at h
  split at h
  · rename_i e; cases e
  · rename_i kk i e
    cases e
    split at h
    · rename_i hc
      cases h
      simp only [V.R] at hx
      subst hx
      exact ⟨run_sliceBound w kk i lim' code hc.1 (by omega), by omega⟩
    · cases h
  · cases h

theorem run_slice_gen {t e : TypeId} {s : Nat} (hu : P.underlying t = some (.slice e)) (hs : szOf P e = some s) (a : Option Addr) (len cap : Nat) (lo hi mx : Option Value) (l h m : Nat)
    (hb : (Instr.sliceBounds true len cap lo hi mx).run P w = .ok (l, h, m) w) : (Instr.sliceAt t (.slice a len cap) lo hi mx).run P w = .ok (.slice (if m = l then a else a.map (·.add (l * s))) (h - l) (m - l)) w := by
  simp only [Instr.sliceAt, Sem.run_bind, run_underlying hu, Result.andThen_ok, Instr.slice, hb, run_sizeOf hs, Sem.run_pure]

theorem bounds_none {isS : Bool} {n cap k h : Nat} {lo hi : Option V} {vl vh : Option Value} (h1 : evBound hi n n = some h) (h2 : evBound lo 0 h = some k) (hlo : OptR P I μ w lo vl) (hhi : OptR P I μ w hi vh) (hn : n ≤ cap) :
    (Instr.sliceBounds isS n cap vl vh none).run P w = .ok (k, h, cap) w ∧ k ≤ h ∧ h ≤ n := by
  have hh : (hi = none ∧ vh = none ∧ h = n) ∨ ∃ u, vh = some u ∧ h ≤ n ∧ ∀ code, (Instr.sliceBound u cap code).run P w = .ok h w := by
    cases hi with
    | none => simp only [OptR] at hhi; subst hhi; cases h1; exact .inl ⟨rfl, rfl, rfl⟩
    | some x =>
      simp only [OptR] at hhi
      obtain ⟨u, rfl, hu⟩ := hhi
      exact .inr ⟨u, rfl, (bound_sound (code := .sliceAcap) h1 hu hn).2, fun code => (bound_sound (code := code) h1 hu hn).1⟩
  have hk : (lo = none ∧ vl = none ∧ k = 0) ∨ ∃ u, vl = some u ∧ k ≤ h ∧ ∀ code, (Instr.sliceBound u h code).run P w = .ok k w := by
    cases lo with
    | none => simp only [OptR] at hlo; subst hlo; cases h2; exact .inl ⟨rfl, rfl, rfl⟩
    | some x =>
      simp only [OptR] at hlo
      obtain ⟨u, rfl, hu⟩ := hlo
      exact .inr ⟨u, rfl, (bound_sound (code := .sliceB) h2 hu (Nat.le_refl _)).2, fun code => (bound_sound (code := code) h2 hu (Nat.le_refl _)).1⟩
  rcases hh with ⟨_, rfl, rfl⟩ | ⟨u, rfl, hle, hc⟩ <;> rcases hk with ⟨_, rfl, rfl⟩ | ⟨v, rfl, hle', hd⟩
  · exact ⟨rfl, by omega, by omega⟩
  · exact ⟨by simp [Instr.sliceBounds, hd], by omega, by omega⟩
  · exact ⟨by simp [Instr.sliceBounds, hc], by omega, by omega⟩
  · exact ⟨by simp [Instr.sliceBounds, hc, hd], by omega, by omega⟩

theorem bounds_max {n cap k h m : Nat} {lo : Option V} {hi mx : V} {vl : Option Value} {vh vm : Value} (h0 : evBound (some mx) 0 n = some m) (h1 : evBound (some hi) 0 m = some h) (h2 : evBound lo 0 h = some k) (hlo : OptR P I μ w lo vl) (hhi : V.R P I μ w hi vh) (hmx : V.R P I μ w mx vm) (hn : n ≤ cap) :
    (Instr.sliceBounds true n cap vl (some vh) (some vm)).run P w = .ok (k, h, m) w ∧ k ≤ h ∧ h ≤ m ∧ m ≤ n := by
  obtain ⟨a1, a2⟩ := bound_sound (code := .slice3Acap) h0 hmx hn
  obtain ⟨b1, b2⟩ := bound_sound (code := .slice3B) h1 hhi (Nat.le_refl _)
  have hk : (lo = none ∧ vl = none ∧ k = 0) ∨ ∃ u, vl = some u ∧ k ≤ h ∧ ∀ code, (Instr.sliceBound u h code).run P w = .ok k w := by
    cases lo with
    | none => simp only [OptR] at hlo; subst hlo; cases h2; exact .inl ⟨rfl, rfl, rfl⟩
    | some x =>
      simp only [OptR] at hlo
      obtain ⟨u, rfl, hu⟩ := hlo
      exact .inr ⟨u, rfl, (bound_sound (code := .sliceB) h2 hu (Nat.le_refl _)).2, fun code => (bound_sound (code := code) h2 hu (Nat.le_refl _)).1⟩
  rcases hk with ⟨_, rfl, rfl⟩ | ⟨v, rfl, hle', hd⟩
  · exact ⟨by simp [Instr.sliceBounds, a1, b1], by omega, by omega, by omega⟩
  · exact ⟨by simp [Instr.sliceBounds, a1, b1, hd], by omega, by omega, by omega⟩

theorem memTake {g off n : Nat} {cs : List V} (h : cs = [] ∨ I g ∧ ∃ cells e fr, w.heap[g]? = some (.cells cells e fr) ∧ V.RL P I noMu w cs ((cells.toList.drop off).take cs.length)) :
    cs.take n = [] ∨ I g ∧ ∃ cells e fr, w.heap[g]? = some (.cells cells e fr) ∧ V.RL P I noMu w (cs.take n) ((cells.toList.drop off).take (cs.take n).length) := by
  rcases h with rfl | ⟨hi, cells, e, fr, hg, hr⟩
  · exact .inl (by simp)
  · refine .inr ⟨hi, cells, e, fr, hg, ?_⟩
    have := hr.take n
    rw [List.take_take] at this
    rw [List.length_take]
    exact this
theorem memDrop {g off n : Nat} {cs : List V} (h : cs = [] ∨ I g ∧ ∃ cells e fr, w.heap[g]? = some (.cells cells e fr) ∧ V.RL P I noMu w cs ((cells.toList.drop off).take cs.length)) :
    cs.drop n = [] ∨ I g ∧ ∃ cells e fr, w.heap[g]? = some (.cells cells e fr) ∧ V.RL P I noMu w (cs.drop n) ((cells.toList.drop (off + n)).take (cs.drop n).length) := by
  rcases h with rfl | ⟨hi, cells, e, fr, hg, hr⟩
  · exact .inl (by simp)
  · refine .inr ⟨hi, cells, e, fr, hg, ?_⟩
    have := hr.drop n
    rw [List.drop_take, List.drop_drop] at this
    rw [List.length_drop]
    exact this

theorem dslMem {a : Option Addr} {cs : List V} {k h m s : Nat} (hkh : k ≤ h) (hhm : h ≤ m)
    (hmem : cs = [] ∨ ∃ g off, a = some ⟨g, off, none⟩ ∧ I g ∧ ∃ cells e fr, w.heap[g]? = some (.cells cells e fr) ∧ V.RL P I noMu w cs ((cells.toList.drop off).take cs.length)) :
    (cs.take (h * s)).drop (k * s) = [] ∨ ∃ g off, (if m = k then a else a.map (·.add (k * s))) = some ⟨g, off, none⟩ ∧ I g ∧ ∃ cells e fr, w.heap[g]? = some (.cells cells e fr) ∧ V.RL P I noMu w ((cs.take (h * s)).drop (k * s)) ((cells.toList.drop off).take ((cs.take (h * s)).drop (k * s)).length) := by
  rcases hmem with rfl | ⟨g, off, rfl, hmem⟩
  · exact .inl (by simp)
  · by_cases hmk : m = k
    · obtain rfl : h = k := by omega
      exact .inl (List.drop_eq_nil_of_le (by simp; omega))
    · rw [if_neg hmk]
      rcases memDrop (n := k * s) (memTake (n := h * s) (.inr hmem)) with h0 | h0
      · exact .inl h0
      · exact .inr ⟨g, off + k * s, by simp [Addr.add_mid], h0⟩

theorem dslAdr2 {a : Option Addr} {cap m k s : Nat} (hm : m ≤ cap) (h : a = none ∧ cap = 0 ∨ ∃ g off, a = some ⟨g, off, none⟩) :
    (if m = k then a else a.map (·.add (k * s))) = none ∧ m - k = 0 ∨ ∃ g off, (if m = k then a else a.map (·.add (k * s))) = some ⟨g, off, none⟩ := by
  rcases h with ⟨rfl, h0⟩ | ⟨g, off, rfl⟩
  · exact .inl ⟨by split <;> rfl, by omega⟩
  · right
    split
    · exact ⟨g, off, rfl⟩
    · exact ⟨g, off + k * s, by simp [Addr.add_mid]⟩
theorem dslAdr {a : Option Addr} {cap k s : Nat} (_ : k ≤ cap) (h : a = none ∧ cap = 0 ∨ ∃ g off, a = some ⟨g, off, none⟩) :
    (if cap = k then a else a.map (·.add (k * s))) = none ∧ cap - k = 0 ∨ ∃ g off, (if cap = k then a else a.map (·.add (k * s))) = some ⟨g, off, none⟩ := dslAdr2 (Nat.le_refl _) h

theorem slice_sound {t : TypeId} {x : V} {vx : Value} {lo hi mx : Option V} {vl vh vm : Option Value} (h : evSlice P hp t x lo hi mx = some out) (hx : V.R P I μ w x vx) (hlo : OptR P I μ w lo vl) (hhi : OptR P I μ w hi vh) (hmx : OptR P I μ w mx vm)
    (pre : Pre P I μ w hp out.acc out.hp.length) :
    out.hp = hp ∧ out.wr = [] ∧ (∀ b ∈ out.acc, b < hp.length) ∧ ∃ val, (Instr.sliceAt t vx vl vh vm).run P w = .ok val w ∧ V.R P I μ w out.v val := by
  unfold evSlice at h
  split at h
  · rename_i l
    simp only [V.R] at hx; simp only [OptR] at hmx
    subst hx hmx
    split at h
    case h_2 => cases h
    case h_1 hh hu hhb =>
    split at h
    case h_2 => cases h
    case h_1 k hkb =>
    cases h
    obtain ⟨hb, h1, h2⟩ := bounds_none (isS := false) (P := P) (w := w) (cap := l.length) hhb hkb hlo hhi (Nat.le_refl _)
    refine ⟨rfl, rfl, by simp, .string ((⟨l.toArray⟩ : ByteArray).extract k hh), ?_, ?_⟩
    · have hsz : (⟨l.toArray⟩ : ByteArray).size = l.length := rfl
      simp only [Instr.sliceAt, Sem.run_bind, run_underlying hu, Result.andThen_ok, Instr.slice, hsz, hb, Sem.run_pure, Option.isSome_none, Bool.false_eq_true, if_false]
    · simp only [V.R]
      congr 1
      apply ByteArray.ext
      simp [ByteArray.data_extract, List.extract_eq_take_drop, List.drop_take]
  · rename_i b off n full
    simp only [V.R] at hx; simp only [OptR] at hmx
    obtain ⟨g, cap, e', N, i, hg, rfl, hncap, hcm, hfull, hsh, hi', hN⟩ := hx
    subst hmx
    split at h
    case h_2 => cases h
    case h_1 e hh blk hu hhb hblk =>
    have hbl : b < hp.length := (List.getElem?_eq_some_iff.1 hblk).1
    split at h
    case h_2 => cases h
    case h_1 k s hkb hs hel =>
    have hacc : b ∈ out.acc := by
      split at h
      · cases h; simp
      · split at h <;> (cases h; simp)
    obtain ⟨g', cs, fr, hg', _, hw, _⟩ := pre.holds b hacc blk hblk
    rw [hg] at hg'; cases hg'
    have hshape := shape_of hw
    rw [hsh] at hshape
    cases hshape
    rw [eq_of_beq hel] at hi'
    have hsz : i.size = s := by unfold szOf at hs; rw [hi'] at hs; simpa using hs
    subst hsz
    obtain ⟨hb, h1, h2⟩ := bounds_none (isS := true) (P := P) (w := w) hhb hkb hlo hhi hncap
    have hr := run_slice_gen (P := P) (w := w) hu hs (some ⟨g, off, none⟩) n cap vl vh none k hh cap hb
    have hfull' : (full && hh == n) = true → cap = hh := by
      intro hf; simp at hf; have := hfull hf.1; omega
    split at h
    · cases h
      have hk0 : k = 0 := by simp only [evBound, Option.some.injEq] at hkb; exact hkb.symm
      subst hk0
      refine ⟨rfl, rfl, by simpa using hbl, _, hr, ?_⟩
      simp only [V.R]
      refine ⟨g, cap, _, _, i, hg, ?_, by omega, hcm, hfull', hsh, by rw [eq_of_beq hel]; exact hi', hN⟩
      split <;> simp [Addr.add]
    · split at h
      · rename_i hkh
        cases h
        refine ⟨rfl, rfl, by simpa using hbl, _, hr, ?_⟩
        rw [if_neg (show ¬ cap = k by omega)]
        simp only [V.R]
        have hmul : k * i.size + (cap - k) * i.size = cap * i.size := by rw [← Nat.add_mul]; congr 1; omega
        exact ⟨g, cap - k, _, _, i, hg, by simp [Addr.add_mid], by omega, by omega, fun hf => by have := hfull' hf; omega, hsh, by rw [eq_of_beq hel]; exact hi', by omega⟩
      · rename_i hkh
        cases h
        obtain rfl : k = hh := by omega
        refine ⟨rfl, rfl, by simpa using hbl, _, hr, ?_⟩
        simp only [V.R]
        refine ⟨some (if cap = k then ⟨g, off, none⟩ else (⟨g, off, none⟩ : Addr).add (k * i.size)), cap - k, ?_, by omega, fun hf => by have := hfull' hf; omega, .inr (by split; exact ⟨g, off, rfl⟩; exact ⟨g, off + k * i.size, by simp [Addr.add_mid]⟩), .inl trivial⟩
        split <;> simp
  · rename_i b off n full m
    simp only [V.R] at hx; simp only [OptR] at hmx
    obtain ⟨g, cap, e', N, i, hg, rfl, hncap, hcm, hfull, hsh, hi', hN⟩ := hx
    obtain ⟨vm', rfl, hmx⟩ := hmx
    split at h
    case h_2 => cases h
    case h_1 e m hi0 blk hu hmb hblk =>
    have hbl : b < hp.length := (List.getElem?_eq_some_iff.1 hblk).1
    simp only [OptR] at hhi
    obtain ⟨vh', rfl, hhi⟩ := hhi
    split at h
    case h_2 => cases h
    case h_1 hh hhb =>
    split at h
    case h_2 => cases h
    case h_1 k s hkb hs hel =>
    have hacc : b ∈ out.acc := by
      split at h <;> (cases h; simp)
    obtain ⟨g', cs, fr, hg', _, hw, _⟩ := pre.holds b hacc blk hblk
    rw [hg] at hg'; cases hg'
    have hshape := shape_of hw
    rw [hsh] at hshape
    cases hshape
    rw [eq_of_beq hel] at hi'
    have hsz : i.size = s := by unfold szOf at hs; rw [hi'] at hs; simpa using hs
    subst hsz
    obtain ⟨hb, h1, h2, h3⟩ := bounds_max (P := P) (w := w) hmb hhb hkb hlo hhi hmx hncap
    have hr := run_slice_gen (P := P) (w := w) hu hs (some ⟨g, off, none⟩) n cap vl (some vh') (some vm') k hh m hb
    split at h
    · rename_i ek
      cases h
      subst ek
      refine ⟨rfl, rfl, by simpa using hbl, _, hr, ?_⟩
      simp only [V.R]
      refine ⟨some (if m = k then ⟨g, off, none⟩ else (⟨g, off, none⟩ : Addr).add (k * i.size)), m - k, ?_, by omega, fun hf => by have := eq_of_beq hf; omega, .inr (by split; exact ⟨g, off, rfl⟩; exact ⟨g, off + k * i.size, by simp [Addr.add_mid]⟩), .inl trivial⟩
      split <;> simp
    · rename_i ek
      cases h
      refine ⟨rfl, rfl, by simpa using hbl, _, hr, ?_⟩
      rw [if_neg (show ¬ m = k by omega)]
      simp only [V.R]
      have hmul : k * i.size + (m - k) * i.size = m * i.size := by rw [← Nat.add_mul]; congr 1; omega
      have hmul2 : m * i.size ≤ cap * i.size := Nat.mul_le_mul_right _ (by omega)
      exact ⟨g, m - k, _, _, i, hg, by simp [Addr.add_mid], by omega, by omega, fun hf => by have := eq_of_beq hf; omega, hsh, by rw [eq_of_beq hel]; exact hi', by omega⟩
  · rename_i n full cs0
    simp only [V.R] at hx; simp only [OptR] at hmx
    obtain ⟨a, cap, rfl, hncap, hfull, hnone, hmem⟩ := hx
    subst hmx
    split at h
    case h_2 => cases h
    case h_1 e hh hu hhb =>
    split at h
    case h_2 => cases h
    case h_1 k s hkb hs =>
    obtain ⟨hb, h1, h2⟩ := bounds_none (isS := true) (P := P) (w := w) hhb hkb hlo hhi hncap
    have hr := run_slice_gen (P := P) (w := w) hu hs a n cap vl vh none k hh cap hb
    have hfull' : (full && hh == n) = true → cap = hh := by
      intro hf; simp at hf; have := hfull hf.1; omega
    cases h
    refine ⟨rfl, rfl, by simp, _, hr, ?_⟩
    simp only [V.R]
    refine ⟨_, cap - k, rfl, by omega, fun hf => by have := hfull' hf; omega, dslAdr (by omega) hnone, dslMem h1 (by omega) hmem⟩
  · rename_i n full cs0 m
    simp only [V.R] at hx; simp only [OptR] at hmx
    obtain ⟨a, cap, rfl, hncap, hfull, hnone, hmem⟩ := hx
    obtain ⟨vm', rfl, hmx⟩ := hmx
    split at h
    case h_2 => cases h
    case h_1 e m hi0 hu hmb =>
    simp only [OptR] at hhi
    obtain ⟨vh', rfl, hhi⟩ := hhi
    split at h
    case h_2 => cases h
    case h_1 hh hhb =>
    split at h
    case h_2 => cases h
    case h_1 k s hkb hs =>
    obtain ⟨hb, h1, h2, h3⟩ := bounds_max (P := P) (w := w) hmb hhb hkb hlo hhi hmx hncap
    have hr := run_slice_gen (P := P) (w := w) hu hs a n cap vl (some vh') (some vm') k hh m hb
    cases h
    refine ⟨rfl, rfl, by simp, _, hr, ?_⟩
    simp only [V.R]
    refine ⟨_, m - k, rfl, by omega, fun hf => by have := eq_of_beq hf; omega, dslAdr2 (by omega) hnone, dslMem h1 h2 hmem⟩
  · cases h

end
end Go.Proofs.YtlimecojoiimaaaGreat

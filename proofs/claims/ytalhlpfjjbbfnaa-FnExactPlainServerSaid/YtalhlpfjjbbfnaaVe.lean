/-
  The small evaluator's appends, conversions, slices and comparisons do what the machine does.
-/
import Derived.Test.YtalhlpfjjbbfnaaVd
import Derived.Laws.MakeOwn
namespace Go.Proofs.Ytalhlpfjjbbfnaa
open Go.RowKit

section
variable {P : Program} {μ μ' : Mu} {w w' : World} {hp : Hp} {out : Out}

theorem makeSlice_sound {t : TypeId} {x y : V} {vx vy : Value} (h : evMakeSlice P hp t x y = some out) (hx : V.R P μ w x vx) (hy : V.R P μ w y vy) (pre : Pre P μ w hp out.acc out.hp.length) :
    ∃ val w' μ', (Instr.makeSlice t vx vy).run P w = .ok val w' ∧ V.R P μ' w' out.v val ∧ Good P μ μ' w w' hp out.hp out.acc out.wr := by
  unfold evMakeSlice at h
  split at h
  case h_2 => cases h
  case h_1 kl l kc c =>
  split at h
  case h_2 => cases h
  case h_1 elem hu =>
  split at h
  case h_2 => cases h
  case h_1 i hi =>
  split at h
  case h_2 => cases h
  case h_1 z hz =>
  split at h
  case isFalse => cases h
  case isTrue hcond =>
  obtain ⟨h0, hlc, hc, hb, hpos, hzs⟩ := hcond
  cases h
  simp only [V.R] at hx hy
  subst hx hy
  have hbytes : (i.bytes : Int) * c ≤ 281474976710656 := by
    have h1 : (i.bytes : Int) * c ≤ (1048576 : Int) * c := Int.mul_le_mul_of_nonneg_right (by omega) (by omega)
    omega
  have hr := run_make (P := P) w t elem i z hu hi hz kl kc l c h0 hlc hbytes (by omega)
  obtain ⟨hg, hsh⟩ := Good.new (P := P) (μ := μ) (w := w) (hp := hp) (acc := []) (blk := (zeros (z.cells.toList.map ofScalar) (c.toNat * i.size), elem)) (cs := madeCells z.cells (c.toNat * i.size)) (fr := (0, 0)) (wd := w) (.inl rfl)
    (by simpa using pre) (by simp [zeros, madeCells]) (.inl (Nat.le_refl _)) (by
      rw [List.take_of_length_le (by simp [zeros, madeCells])]
      exact RL_zeros _ _)
  refine ⟨_, _, _, hr, ?_, hg⟩
  simp only [V.R]
  refine ⟨_, c.toNat, elem, _, i, Mu.put_at _ _ _, rfl, by omega, by simp only [maxLen]; omega, fun hf => ?_, hsh, hi, by simp [madeCells]⟩
  have := eq_of_beq hf; omega

theorem src_sound {size : Nat} {x : V} {vx : Value} {bs : List Nat} {m : Nat} {news : List V} (h : srcV hp size x = some (bs, m, news)) (hx : V.R P μ w x vx) (hh : ∀ b ∈ bs, ∀ blk, hp[b]? = some (some blk) → Holds P μ w b blk) :
    ∃ a c nv, vx = .slice a m c ∧ news.length = m * size ∧ V.RL P μ w news nv ∧ (∀ u ∈ nv, u.oneCell' = true) ∧ Lies w a nv ∧ (∀ b ∈ bs, b < hp.length) ∧
      (m ≠ 0 → ∃ b off g, bs = [b] ∧ μ b = some g ∧ a = some ⟨g, off, none⟩) := by
  unfold srcV at h
  split at h
  · cases h; simp only [V.R] at hx; exact ⟨none, 0, [], hx, by simp, by simp [V.RL], by simp, .inl rfl, by simp, by simp⟩
  · cases h; simp only [V.R] at hx; obtain ⟨a, cap, rfl, _⟩ := hx; exact ⟨some a, cap, [], rfl, by simp, by simp [V.RL], by simp, .inl rfl, by simp, by simp⟩
  · rename_i b off m' full
    split at h
    case h_2 => cases h
    case h_1 blk hb =>
    split at h
    case isFalse => cases h
    case isTrue hc =>
    cases h
    simp only [V.R] at hx
    obtain ⟨g, cap, e, N, i, hg, rfl, _⟩ := hx
    obtain ⟨cs, hrow, hsz, hrl⟩ := (hh b (by simp) blk hb).row hg
    have hr2 := (hrl.drop off).take (m * size)
    refine ⟨_, cap, _, rfl, hc.1, hr2, ones hr2 hc.2, .inr ⟨_, rfl, hrow.lt, fun j u hu => ?_⟩, by simpa using (List.getElem?_eq_some_iff.1 hb).1, fun _ => ⟨b, off, g, rfl, hg, rfl⟩⟩
    rw [Addr.add_mid]
    exact hrow.range off _ _ j u hu
  · cases h

theorem lies_cells {a : Option Addr} {nv : List Value} (h : Lies w a nv) (hne : nv ≠ []) : ∃ ad, a = some ad ∧ ∀ j u, nv[j]? = some u → w.cell? (ad.add j) = some u := by
  rcases h with h | ⟨ad, h1, _, h2⟩
  · exact absurd h hne
  · exact ⟨ad, h1, h2⟩

/-- append in place: the old block is known no more; a new one lies where it lay. -/
theorem Good.onto {acc : List Nat} {b g : Nat} {blk blk' : Blk} {old cs : Array Value} {fr : Nat × Nat} (pre : Pre P μ w hp acc (hp.length + 1)) (hb : b ∈ acc) (hblk : hp[b]? = some (some blk)) (hg : μ b = some g)
    (hw : w.heap[g]? = some (.cells old blk.2 fr)) (he : blk'.2 = blk.2) (hsz : cs.size = old.size) (hs : blk'.1.length ≤ cs.size) (hfr : fr.2 ≤ fr.1 ∨ old.size ≤ fr.1) (hr : V.RL P μ w blk'.1 (cs.toList.take blk'.1.length)) :
    Good P μ (μ.put hp.length g) w (w.setRow g cs) hp (hp.set b none ++ [some blk']) acc [b] := by
  have hE0 : Evo w (w.setRow g cs) (fun k => k = g) := .setRow w g old cs _ fr hw hsz
  have hE : Evo w (w.setRow g cs) (fun k => ∃ c ∈ [b], μ c = some k) := hE0.mono fun k hk => ⟨b, by simp, by rw [hk]; exact hg⟩
  have hbl : b < hp.length := (List.getElem?_eq_some_iff.1 hblk).1
  have hle : MuLe μ (μ.put hp.length g) := Mu.put_le (pre.fresh _ (Nat.le_refl _) (by omega))
  have hat : ∀ c blk'', (hp.set b none ++ [some blk'])[c]? = some (some blk'') → (c < hp.length ∧ c ≠ b ∧ hp[c]? = some (some blk'')) ∨ (c = hp.length ∧ blk'' = blk') := by
    intro c blk'' h
    rw [List.getElem?_append] at h
    simp only [List.length_set] at h
    split at h
    · rename_i hc
      rw [List.getElem?_set] at h
      split at h
      · first | (cases h; done) | (split at h <;> cases h)
      · rename_i hcb; exact .inl ⟨hc, fun e => hcb e.symm, h⟩
    · rename_i hc
      right
      cases hk : c - hp.length with
      | zero => rw [hk] at h; simp at h; exact ⟨by omega, h.symm⟩
      | succ k => rw [hk] at h; simp at h
  refine ⟨hE, hle, fun c k h => ?_, fun c hc blk'' h => ?_, fun c hc blk'' h k hk => ?_, fun c d b1 b2 k hne hc hd h1 h2 k1 k2 => ?_⟩
  · by_cases hcl : c = hp.length
    · right; simp; omega
    · left; rwa [Mu.put_ne _ _ hcl] at h
  · rcases hat c blk'' h with ⟨hl, hcb, h⟩ | ⟨rfl, rfl⟩
    · rcases hc with hc | hc
      · refine (pre.holds c hc blk'' h).keep hE0 hle fun k hk hx => ?_
        subst hx
        exact pre.inj c hc b hb _ _ k hcb h hblk hk hg
      · omega
    · refine ⟨g, cs, fr, Mu.put_at _ _ _, ?_, by rw [hsz]; exact hfr, hs, V.RL.keep hE.shape hle _ _ hr⟩
      rw [setRow_heap w g old cs _ fr hw, he]
  · rcases hat c blk'' h with ⟨hl, _⟩ | ⟨rfl, rfl⟩
    · omega
    · rw [Mu.put_at] at hk; cases hk
      refine .inr ⟨b, by simp, hg, ⟨_, hblk⟩, ?_⟩
      rw [List.getElem?_append_left (by simpa using hbl), List.getElem?_set_self hbl]
  · rcases hat c b1 h1 with ⟨hl, hcb, h1'⟩ | ⟨ec, _⟩
    · rw [Mu.put_ne _ _ (by omega)] at k1
      have hc' : c ∈ acc := by rcases hc with hc | hc; exact hc; omega
      rcases hat d b2 h2 with ⟨hl', hdb, h2'⟩ | ⟨ed, _⟩
      · rw [Mu.put_ne _ _ (by omega)] at k2
        have hd' : d ∈ acc := by rcases hd with hd | hd; exact hd; omega
        exact pre.inj _ hc' _ hd' _ _ k hne h1' h2' k1 k2
      · subst ed
        rw [Mu.put_at] at k2; cases k2
        exact pre.inj _ hc' _ hb _ _ g hcb h1' hblk k1 hg
    · subst ec
      rw [Mu.put_at] at k1; cases k1
      rcases hat d b2 h2 with ⟨hl', hdb, h2'⟩ | ⟨ed, _⟩
      · rw [Mu.put_ne _ _ (by omega)] at k2
        have hd' : d ∈ acc := by rcases hd with hd | hd; exact hd; omega
        exact pre.inj _ hd' _ hb _ _ g hdb h2' hblk k2 hg
      · exact hne ed.symm

theorem append_zero {t ty elem : TypeId} {i : TypeInfo} (hu : P.underlying t = some (.slice elem)) (hi : P.info? elem = some i) (b : Option Addr) (n cap : Nat) (hn : n ≤ cap) (a : Option Addr) (c : Nat) :
    (Builtin.append_ #[t, t] ty #[.slice b n cap, .slice a 0 c]).run P w = .ok (.slice b n cap) w := by
  cases b <;> cases a <;> simp [Builtin.append_, run_underlying hu, sizeOf, typeInfo, hi, Builtin.lenOf, Builtin.firstCells, loadCells, loadCellsFrom, hn, storeCells]

/-- append onto a slice that has no room. -/
theorem append_new {t ty elem : TypeId} {i : TypeInfo} {z : Value} (hu : P.underlying t = some (.slice elem)) (hi : P.info? elem = some i) (hz : i.zero = some z) (hzs : z.cells.size = i.size) (hpos : 0 < i.size) {acc : List Nat}
    {b : Option Addr} {n cap : Nat} {olds news : List V} {ov nv : List Value} (hpre : Pre P μ w hp acc (hp.length + 1)) (hol : olds.length = n * i.size) (ho : V.RL P μ w olds ov) (hb : b = none ∧ n = 0 ∧ cap = 0 ∨ ∃ ad, b = some ad ∧ ∀ j u, ov[j]? = some u → w.cell? (ad.add j) = some u)
    {a : Option Addr} {m c : Nat} (hm : 0 < m) (hnl : news.length = m * i.size) (hn : V.RL P μ w news nv) (hl : Lies w a nv) (hcap : cap < n + m) (h63 : n + m ≤ maxLen) (hby : (n + m) * i.bytes ≤ 140737488355328) :
    ∃ val w' μ', (Builtin.append_ #[t, t] ty #[.slice b n cap, .slice a m c]).run P w = .ok val w' ∧ V.R P μ' w' (.sl hp.length 0 (n + m) false) val ∧ Good P μ μ' w w' hp (hp ++ [some (olds ++ news, elem)]) acc [] := by
  have hnv := hn.length
  have hov := ho.length
  have hne : nv ≠ [] := by
    rintro rfl
    have : 0 < m * i.size := Nat.mul_pos hm hpos
    simp at hnv; omega
  obtain ⟨ad, rfl, hcells⟩ := lies_cells hl hne
  have hsmall : n + m ≤ 9223372036854775807 := by simp only [maxLen] at h63; omega
  have fin : ∀ newCap, n + m ≤ newCap → newCap ≤ maxLen → ∀ row : Array Value, row = ov.toArray ++ nv.toArray ++ Builtin.zeroCells z.cells (newCap - (n + m)) →
      ∃ μ', V.R P μ' (w.drew.alloc (.cells row elem)) (.sl hp.length 0 (n + m) false) (.slice (some ⟨w.heap.size, 0, none⟩) (n + m) newCap) ∧ Good P μ μ' w (w.drew.alloc (.cells row elem)) hp (hp ++ [some (olds ++ news, elem)]) acc [] := by
    intro newCap hge hcm row hrow
    have hrs : row.size = newCap * i.size := by
      rw [hrow]
      simp only [Array.size_append, List.size_toArray, size_zeroCells, hzs, hov, hnv, hol, hnl]
      rw [← Nat.add_mul, ← Nat.add_mul]; congr 1; omega
    have hlen : (olds ++ news).length = (n + m) * i.size := by rw [List.length_append, hol, hnl, Nat.add_mul]
    have htake : row.toList.take (olds ++ news).length = ov ++ nv := by
      rw [hrow]
      have e : (ov.toArray ++ nv.toArray ++ Builtin.zeroCells z.cells (newCap - (n + m))).toList = (ov ++ nv) ++ (Builtin.zeroCells z.cells (newCap - (n + m))).toList := by simp
      have e2 : (olds ++ news).length = (ov ++ nv).length := by simp only [List.length_append, hov, hnv]
      rw [e, e2]; exact List.take_left
    have hle2 : (n + m) * i.size ≤ newCap * i.size := Nat.mul_le_mul_right _ hge
    obtain ⟨hg, hsh⟩ := Good.new (P := P) (μ := μ) (w := w) (hp := hp) (acc := acc) (blk := (olds ++ news, elem)) (cs := row) (fr := (0, 0)) (wd := w.drew) (.inr rfl) hpre (by show (olds ++ news).length ≤ _; rw [hlen, hrs]; exact hle2) (.inl (Nat.le_refl _))
      (by show V.RL P μ w (olds ++ news) (row.toList.take (olds ++ news).length); rw [htake]; exact ho.append hn)
    refine ⟨_, ?_, hg⟩
    simp only [V.R]
    exact ⟨_, newCap, elem, _, i, Mu.put_at _ _ _, rfl, hge, hcm, by simp, hsh, hi, by show 0 + newCap * i.size ≤ row.size; omega⟩
  rcases hb with ⟨rfl, rfl, rfl⟩ | ⟨bd, rfl, hb⟩
  · have hox : ov = [] := List.eq_nil_of_length_eq_zero (by rw [hov, hol]; simp)
    subst hox
    have hr := run_append_nil (P := P) w t ty elem i z hu hi hz ad m c nv (by rw [hnv, hnl]) hcells hm (by omega) (by simp only [Nat.zero_add] at hby; omega)
    obtain ⟨μ', h1, h2⟩ := fin (grownCap w m 0 elem) (by have := grownCap_ge w m 0 elem; omega) (grownCap_le_maxLen w m 0 elem (by omega)) _ rfl
    refine ⟨_, _, μ', by rw [hr], ?_, ?_⟩
    · simpa using h1
    · simpa using h2
  · have hr := run_append_grow (P := P) w t ty elem i z hu hi hz bd n cap ov (by rw [hov, hol]) hb ad m c nv (by rw [hnv, hnl]) hcells hcap (by omega) (growslice_fits (by omega) hby)
    obtain ⟨μ', h1, h2⟩ := fin (grownCap w (n + m) cap elem) (grownCap_ge w (n + m) cap elem) (grownCap_le_maxLen w (n + m) cap elem h63) _ rfl
    exact ⟨_, _, μ', hr, h1, h2⟩

theorem append_sound {t t' ty : TypeId} {x y : V} {vx vy : Value} (h : evAppend P hp t t' x y = some out) (hx : V.R P μ w x vx) (hy : V.R P μ w y vy) (pre : Pre P μ w hp out.acc out.hp.length) :
    ∃ val w' μ', (Builtin.append_ #[t, t'] ty #[vx, vy]).run P w = .ok val w' ∧ V.R P μ' w' out.v val ∧ Good P μ μ' w w' hp out.hp out.acc out.wr := by
  unfold evAppend at h
  split at h
  case h_2 => cases h
  case h_1 elem hu =>
  split at h
  case h_2 => cases h
  case h_1 i hi =>
  split at h
  case h_2 => cases h
  case h_1 z hz htt =>
  have htt' : t = t' := eq_of_beq htt
  subst htt'
  split at h
  case isFalse => cases h
  case isTrue hcond =>
  obtain ⟨hpos, hzs⟩ := hcond
  split at h
  case h_2 => cases h
  case h_1 bs m news hsrc =>
  split at h
  case h_1 =>
    have hv : ∃ b n cap, vx = .slice b n cap ∧ n ≤ cap ∧ out = ⟨x, hp, bs, []⟩ := by
      split at h
      · cases h; simp only [V.R] at hx; exact ⟨_, _, _, hx, Nat.le_refl _, rfl⟩
      · cases h; simp only [V.R] at hx; obtain ⟨a, cap, rfl, _⟩ := hx; exact ⟨_, _, _, rfl, Nat.zero_le _, rfl⟩
      · cases h; simp only [V.R] at hx; obtain ⟨g, cap, e, N, i, _, rfl, h2, _⟩ := hx; exact ⟨_, _, _, rfl, h2, rfl⟩
      · cases h
    obtain ⟨b, n, cap, rfl, hn, rfl⟩ := hv
    obtain ⟨a, c, nv, rfl, _⟩ := src_sound hsrc hy pre.holds
    exact ⟨_, _, _, append_zero hu hi b n cap hn a c, hx, Good.same hp pre⟩
  case h_2 m =>
    split at h
    · split at h
      case isFalse => cases h
      case isTrue hc =>
      cases h
      obtain ⟨a, c, nv, rfl, h1, h2, _, h3, _⟩ := src_sound hsrc hy pre.holds
      simp only [V.R] at hx
      subst hx
      have := append_new (P := P) (ty := ty) hu hi hz hzs hpos (olds := []) (ov := []) (n := 0) (cap := 0) (b := none) (by simpa using pre) (by simp) (by simp [V.RL]) (.inl ⟨rfl, rfl, rfl⟩) (Nat.succ_pos m) h1 h2 h3 (c := c) (by omega) (by simpa using hc.1) (by simpa using hc.2)
      simpa using this
    · split at h
      case isFalse => cases h
      case isTrue hc =>
      cases h
      obtain ⟨a, c, nv, rfl, h1, h2, _, h3, _⟩ := src_sound hsrc hy pre.holds
      simp only [V.R] at hx
      obtain ⟨ad, cap, rfl, hcap⟩ := hx
      obtain rfl : cap = 0 := by simpa using hcap
      have := append_new (P := P) (ty := ty) hu hi hz hzs hpos (olds := []) (ov := []) (n := 0) (cap := 0) (b := some ad) (by simpa using pre) (by simp) (by simp [V.RL]) (.inr ⟨ad, rfl, by simp⟩) (Nat.succ_pos m) h1 h2 h3 (c := c) (by omega) (by simpa using hc.1) (by simpa using hc.2)
      simpa using this
    · rename_i b off n full
      split at h
      case h_2 => cases h
      case h_1 blk hb =>
      split at h
      case isFalse => cases h
      case isTrue hc =>
      obtain ⟨hl, h63, hby, he⟩ := hc
      simp only [V.R] at hx
      obtain ⟨g, cap, e', N, i', hg, rfl, hncap, hcm, hfull, hsh, hi', hN⟩ := hx
      split at h
      · cases h
        obtain rfl : cap = n := by simpa using hfull
        obtain ⟨a, c, nv, rfl, h1, h2, _, h3, _⟩ := src_sound hsrc hy fun b' hb' => pre.holds b' (by simp [hb'])
        obtain ⟨cs, hrow, hsz, hrl⟩ := (pre.holds b (by simp) blk hb).row hg
        exact append_new (P := P) (ty := ty) hu hi hz hzs hpos (by simpa using pre) hl ((hrl.drop off).take _) (.inr ⟨_, rfl, fun j u hu => by rw [Addr.add_mid]; exact hrow.range off _ _ j u hu⟩) (Nat.succ_pos m) h1 h2 h3 (by omega) h63 hby
      · split at h
        case isFalse => cases h
        case isTrue hoff =>
        cases h
        subst hoff
        obtain ⟨a, c, nv, rfl, h1, h2, hone, h3, _⟩ := src_sound hsrc hy fun b' hb' => pre.holds b' (by simp [hb'])
        have h1 : news.length = (m + 1) * i.size := h1
        have h63 : n + (m + 1) ≤ maxLen := h63
        have hby : (n + (m + 1)) * i.bytes ≤ 140737488355328 := hby
        have hpre1 : Pre P μ w hp (b :: bs) (hp.length + 1) := by simpa using pre
        obtain ⟨g', cs, fr, hg', hw, hfr, hsz, hrl⟩ := pre.holds b (by simp) blk hb
        rw [hg] at hg'; cases hg'
        have hrow : Row w g blk.2 cs := ⟨fr, hw, hfr⟩
        by_cases hroom : n + (m + 1) ≤ cap
        · have hshape := shape_of hw
          rw [hsh] at hshape
          cases hshape
          rw [he, hi] at hi'
          cases hi'
          have hnv := h2.length
          have hne : nv ≠ [] := by
            rintro rfl
            have : 0 < (m + 1) * i.size := Nat.mul_pos (Nat.succ_pos m) hpos
            simp at hnv; omega
          obtain ⟨ad, rfl, hcells⟩ := lies_cells h3 hne
          have hmul : (n + (m + 1)) * i.size ≤ cap * i.size := Nat.mul_le_mul_right _ hroom
          have hmul2 : (n + (m + 1)) * i.size = n * i.size + (m + 1) * i.size := Nat.add_mul _ _ _
          have hf := run_firstCells_some (P := P) w i.size (m + 1) ad (m + 1) c nv (by rw [hnv, h1]) hcells
          have hst := storeCells_row P g (n * i.size) blk.2 nv 0 cs w hrow (by omega) hone
          simp only [Nat.add_zero] at hst
          have hr : (Builtin.append_ #[t, t] ty #[.slice (some ⟨g, 0, none⟩) n cap, .slice (some ad) (m + 1) c]).run P w =
              .ok (.slice (some ⟨g, 0, none⟩) (n + (m + 1)) cap) (w.setRow g (cs.toList.take (n * i.size) ++ nv ++ cs.toList.drop (n * i.size + nv.length)).toArray) := by
            simp [Builtin.append_, run_underlying hu, sizeOf, typeInfo, hi, Builtin.lenOf, hroom, hf, Addr.add_lit, hst]
          have hlen : ((blk.1.drop 0).take (n * i.size) ++ news).length = (n + (m + 1)) * i.size := by rw [List.length_append, hl, h1, hmul2]
          have hnle : n * i.size ≤ blk.1.length := by simp at hl; omega
          have hcsz : (cs.toList.take (n * i.size) ++ nv ++ cs.toList.drop (n * i.size + nv.length)).toArray.size = cs.size := by
            simp only [List.size_toArray, List.length_append, List.length_take, List.length_drop, Array.length_toList]; omega
          refine ⟨_, _, _, hr, ?_, Good.onto (blk' := ((blk.1.drop 0).take (n * i.size) ++ news, elem)) hpre1 (by simp) hb hg hw he.symm hcsz (by show ((blk.1.drop 0).take (n * i.size) ++ news).length ≤ _; rw [hcsz, hlen]; omega) hfr ?_⟩
          · simp only [V.R]
            refine ⟨g, cap, elem, cs.size, i, Mu.put_at _ _ _, rfl, hroom, hcm, by simp, ?_, hi, by omega⟩
            rw [shape_of (setRow_heap w g cs _ _ fr hw), hcsz, he]
          · show V.RL P μ w ((blk.1.drop 0).take (n * i.size) ++ news) (List.take ((blk.1.drop 0).take (n * i.size) ++ news).length _)
            have e1 : (List.take (n * i.size) cs.toList ++ nv).length = ((blk.1.drop 0).take (n * i.size) ++ news).length := by
              rw [hlen, List.length_append, List.length_take, hnv, h1, hmul2, Array.length_toList]; congr 1; omega
            rw [← e1]
            simp only [List.append_assoc]
            rw [← List.append_assoc, List.take_left' rfl]
            refine V.RL.append ?_ h2
            have := hrl.take (n * i.size)
            rw [List.take_take, Nat.min_eq_left hnle] at this
            simpa using this
        · obtain ⟨val, w', μ', hr, hR, hG⟩ := append_new (P := P) (ty := ty) (hp := hp) hu hi hz hzs hpos hpre1 hl ((hrl.drop 0).take _) (.inr ⟨_, rfl, fun j u hu => by rw [Addr.add_mid]; exact hrow.range 0 _ _ j u hu⟩) (m := m + 1) (c := c) (Nat.succ_pos m) h1 h2 h3 (show cap < n + (m + 1) by omega) h63 hby
          have hbl : b < hp.length := (List.getElem?_eq_some_iff.1 hb).1
          have hat : ∀ (c : Nat) (blk'' : Blk), (hp.set b none ++ [some ((blk.1.drop 0).take (n * i.size) ++ news, elem)])[c]? = some (some blk'') → (hp ++ [some ((blk.1.drop 0).take (n * i.size) ++ news, elem)])[c]? = some (some blk'') := by
            intro c blk'' hc
            rw [List.getElem?_append] at hc ⊢
            simp only [List.length_set] at hc
            split at hc
            · rename_i hcl
              rw [if_pos hcl]
              rw [List.getElem?_set] at hc
              split at hc
              · first | (cases hc; done) | (split at hc <;> cases hc)
              · exact hc
            · rename_i hcl
              rw [if_neg hcl]; exact hc
          refine ⟨val, w', μ', hr, hR, ⟨hG.evo.mono (fun k hk => by obtain ⟨c, hc, _⟩ := hk; cases hc), hG.le, fun c k hk => ?_, fun c hc blk'' h => hG.holds c hc blk'' (hat _ _ h), fun c hc blk'' h k hk => ?_, fun c d b1 b2 k hne hc hd h1 h2 => hG.inj c d b1 b2 k hne hc hd (hat _ _ h1) (hat _ _ h2)⟩⟩
          · have := hG.dom c k hk; simpa using this
          · rcases hG.prov c hc blk'' (hat _ _ h) k hk with h | ⟨d, hd, _⟩
            · exact .inl h
            · cases hd
    · cases h

end
end Go.Proofs.Ytalhlpfjjbbfnaa

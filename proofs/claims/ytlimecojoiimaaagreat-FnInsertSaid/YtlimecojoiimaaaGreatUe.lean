/-
  The small evaluator's appends, conversions, slices and comparisons do what the machine does.
-/
import Derived.Test.YtlimecojoiimaaaGreatUd
import Derived.Laws.MakeOwn
namespace Go.Proofs.YtlimecojoiimaaaGreat
open Go.RowKit

section
variable {P : Program} {I : Nat → Prop} {μ μ' : Mu} {w w' : World} {hp : Hp} {out : Out}

theorem makeSlice_sound {t : TypeId} {x y : V} {vx vy : Value} (h : evMakeSlice P hp t x y = some out) (hx : V.R P I μ w x vx) (hy : V.R P I μ w y vy) (pre : Pre P I μ w hp out.acc out.hp.length) :
    ∃ val w' μ', (Instr.makeSlice t vx vy).run P w = .ok val w' ∧ V.R P I μ' w' out.v val ∧ Good P I I μ μ' w w' hp out.hp out.acc out.wr := by
  unfold evMakeSlice at h
  split at h
  case h_2 => cases h
  case h_1 kl l kc c =>
  split at h
  case h_2 => cases h
  case h_1 elem hu =>
  split at h
  case h_2 => cases h
  case h_1 i hi =>
  split at h
  case h_2 => cases h
  case h_1 z hz =>
  split at h
  case isFalse => cases h
  case isTrue hcond =>
  obtain ⟨h0, hlc, hc, hb, hpos, hzs⟩ := hcond
  cases h
  simp only [V.R] at hx hy
  subst hx hy
  have hbytes : (i.bytes : Int) * c ≤ 281474976710656 := by
    have h1 : (i.bytes : Int) * c ≤ (1048576 : Int) * c := Int.mul_le_mul_of_nonneg_right (by omega) (by omega)
    omega
  have hr := run_make (P := P) w t elem i z hu hi hz kl kc l c h0 hlc hbytes (by omega)
  obtain ⟨hg, hsh⟩ := Good.newC (P := P) (I := I) (μ := μ) (w := w) (hp := hp) (acc := []) (blk := ([.sld (zeros (z.cells.toList.map ofScalar) (c.toNat * i.size))], elem)) (cs := madeCells z.cells (c.toNat * i.size)) (fr := (0, 0)) (wd := w) (.inl rfl)
    (by simpa using pre) (.inl (Nat.le_refl _)) (.sld (by simp [zeros, madeCells]) (by
      rw [List.take_of_length_le (by simp [zeros, madeCells])]
      exact RL_zeros _ _))
  refine ⟨_, _, _, hr, ?_, hg⟩
  simp only [V.R]
  refine ⟨_, c.toNat, elem, _, i, Mu.put_at _ _ _, rfl, by omega, by simp only [maxLen]; omega, fun hf => ?_, hsh, hi, by simp [madeCells]⟩
  have := eq_of_beq hf; omega

theorem flat_take {l : List V} {vs : List Value} (h : CR P I μ w l vs) : vs.length = (flat l).length := h.toRL.length
theorem cut_sound {l : List V} {vs : List Value} {off k : Nat} (h : CR P I μ w l vs) (hk : (((flat l).drop off).take k).length = k) : CR P I μ w (cutV l off k) ((vs.drop off).take k) ∧ (flat (cutV l off k)).length = k := by
  unfold cutV
  split
  · rename_i hc
    obtain ⟨rfl, rfl⟩ := hc
    refine ⟨?_, rfl⟩
    rw [List.drop_zero, List.take_of_length_le (Nat.le_of_eq h.toRL.length)]
    exact h
  · have hr := (h.toRL.drop off).take k
    exact ⟨.of hr, by rw [flat_of_RL hr]; exact hk⟩

theorem src_sound {size : Nat} {x : V} {vx : Value} {bs : List Nat} {m : Nat} {news : List V} (h : srcV hp size x = some (bs, m, news)) (hx : V.R P I μ w x vx) (hh : ∀ b ∈ bs, ∀ blk, hp[b]? = some (some blk) → Holds P I μ w b blk) :
    ∃ a c nv, vx = .slice a m c ∧ (flat news).length = m * size ∧ CR P I μ w news nv ∧ (∀ u ∈ nv, u.oneCell' = true) ∧ Lies w a nv ∧ (∀ b ∈ bs, b < hp.length) := by
  unfold srcV at h
  split at h
  · rename_i b off m' full
    split at h
    case h_2 => cases h
    case h_1 blk hb =>
    split at h
    case isFalse => cases h
    case isTrue hc =>
    cases h
    simp only [V.R] at hx
    obtain ⟨g, cap, e, N, i, hg, rfl, _⟩ := hx
    obtain ⟨cs, hrow, hsz, hrl⟩ := (hh b (by simp) blk hb).rowC hg
    have hr2 := cut_sound (hrl) hc.1
    refine ⟨_, cap, _, rfl, hr2.2, hr2.1, ones ((hrl.toRL.drop off).take (m * size)) hc.2, .inr ⟨_, rfl, hrow.lt, fun j u hu => ?_⟩, by simpa using (List.getElem?_eq_some_iff.1 hb).1⟩
    rw [Addr.add_mid]
    exact hrow.range off _ _ j u hu
  · rename_i m' full cs
    split at h
    case isFalse => cases h
    case isTrue hc =>
    cases h
    simp only [V.R] at hx
    obtain ⟨a, cap, rfl, hnc, _, hnone, hmem⟩ := hx
    have key : ∃ nv : List Value, V.RL P I noMu w (cs.take (m * size)) nv ∧ Lies w a nv := by
      rcases hmem with rfl | ⟨g, off, rfl, _, cells, e, fr, hg, hrl⟩
      · exact ⟨[], by simp [V.RL], .inl rfl⟩
      · refine ⟨((cells.toList.drop off).take cs.length).take (m * size), hrl.take _, .inr ⟨_, rfl, (Array.getElem?_eq_some_iff.1 hg).1, fun j v hv => ?_⟩⟩
        rw [Addr.add_mid]
        rw [List.getElem?_take] at hv
        split at hv
        · rw [List.getElem?_take] at hv
          split at hv
          · rw [List.getElem?_drop] at hv
            simpa [World.cell?, hg] using hv
          · cases hv
        · cases hv
    obtain ⟨nv, h1, h2⟩ := key
    exact ⟨_, cap, nv, rfl, by simpa [flat] using hc.1, .sealed h1, ones h1 hc.2, h2, by simp⟩
  · cases h

theorem lies_cells {a : Option Addr} {nv : List Value} (h : Lies w a nv) (hne : nv ≠ []) : ∃ ad, a = some ad ∧ ∀ j u, nv[j]? = some u → w.cell? (ad.add j) = some u := by
  rcases h with h | ⟨ad, h1, _, h2⟩
  · exact absurd h hne
  · exact ⟨ad, h1, h2⟩

/-- append in place: the old block is known no more; a new one lies where it lay. -/
theorem Good.onto {acc : List Nat} {b g : Nat} {blk blk' : Blk} {old cs : Array Value} {fr : Nat × Nat} (pre : Pre P I μ w hp acc (hp.length + 1)) (hb : b ∈ acc) (hblk : hp[b]? = some (some blk)) (hg : μ b = some g)
    (hw : w.heap[g]? = some (.cells old blk.2 fr)) (he : blk'.2 = blk.2) (hsz : cs.size = old.size) (hfr : fr.2 ≤ fr.1 ∨ old.size ≤ fr.1) (hr : Cont P I μ w blk'.1 cs) :
    Good P I I μ (μ.put hp.length g) w (w.setRow g cs) hp (hp.set b none ++ [some blk']) acc [b] := by
  have hE0 : Evo I w (w.setRow g cs) (fun k => k = g) := .setRow w g old cs _ fr hw hsz ((pre.holds b hb blk hblk).nimm hg)
  have hE : Evo I w (w.setRow g cs) (fun k => ∃ c ∈ [b], μ c = some k) := hE0.mono fun k hk => ⟨b, by simp, by rw [hk]; exact hg⟩
  have hbl : b < hp.length := (List.getElem?_eq_some_iff.1 hblk).1
  have hle : MuLe μ (μ.put hp.length g) := Mu.put_le (pre.fresh _ (Nat.le_refl _) (by omega))
  have hat : ∀ c blk'', (hp.set b none ++ [some blk'])[c]? = some (some blk'') → (c < hp.length ∧ c ≠ b ∧ hp[c]? = some (some blk'')) ∨ (c = hp.length ∧ blk'' = blk') := by
    intro c blk'' h
    rw [List.getElem?_append] at h
    simp only [List.length_set] at h
    split at h
    · rename_i hc
      rw [List.getElem?_set] at h
      split at h
      · first | (cases h; done) | (split at h <;> cases h)
      · rename_i hcb; exact .inl ⟨hc, fun e => hcb e.symm, h⟩
    · rename_i hc
      right
      cases hk : c - hp.length with
      | zero => rw [hk] at h; simp at h; exact ⟨by omega, h.symm⟩
      | succ k => rw [hk] at h; simp at h
  refine ⟨.refl _, fun _ h => .inl h, hE, hle, fun c k h => ?_, fun c hc blk'' h => ?_, fun c hc blk'' h k hk => ?_, fun c d b1 b2 k hne hc hd h1 h2 k1 k2 => ?_⟩
  · by_cases hcl : c = hp.length
    · right; simp; omega
    · left; rwa [Mu.put_ne _ _ hcl] at h
  · rcases hat c blk'' h with ⟨hl, hcb, h⟩ | ⟨rfl, rfl⟩
    · rcases hc with hc | hc
      · refine (pre.holds c hc blk'' h).keep hE0 (.refl _) hle (fun k hk hx => ?_) (fun k hk => (pre.holds c hc blk'' h).nimm hk)
        subst hx
        exact pre.inj c hc b hb _ _ k hcb h hblk hk hg
      · omega
    · refine ⟨g, cs, fr, Mu.put_at _ _ _, (pre.holds b hb blk hblk).nimm hg, ?_, by rw [hsz]; exact hfr, hr.keep hE (Sub.refl _) hle⟩
      rw [setRow_heap w g old cs _ fr hw, he]
  · rcases hat c blk'' h with ⟨hl, _⟩ | ⟨rfl, rfl⟩
    · omega
    · rw [Mu.put_at] at hk; cases hk
      refine .inr ⟨b, by simp, hg, ⟨_, hblk⟩, ?_⟩
      rw [List.getElem?_append_left (by simpa using hbl), List.getElem?_set_self hbl]
  · rcases hat c b1 h1 with ⟨hl, hcb, h1'⟩ | ⟨ec, _⟩
    · rw [Mu.put_ne _ _ (by omega)] at k1
      have hc' : c ∈ acc := by rcases hc with hc | hc; exact hc; omega
      rcases hat d b2 h2 with ⟨hl', hdb, h2'⟩ | ⟨ed, _⟩
      · rw [Mu.put_ne _ _ (by omega)] at k2
        have hd' : d ∈ acc := by rcases hd with hd | hd; exact hd; omega
        exact pre.inj _ hc' _ hd' _ _ k hne h1' h2' k1 k2
      · subst ed
        rw [Mu.put_at] at k2; cases k2
        exact pre.inj _ hc' _ hb _ _ g hcb h1' hblk k1 hg
    · subst ec
      rw [Mu.put_at] at k1; cases k1
      rcases hat d b2 h2 with ⟨hl', hdb, h2'⟩ | ⟨ed, _⟩
      · rw [Mu.put_ne _ _ (by omega)] at k2
        have hd' : d ∈ acc := by rcases hd with hd | hd; exact hd; omega
        exact pre.inj _ hd' _ hb _ _ g hdb h2' hblk k2 hg
      · exact hne ed.symm

theorem append_zero {t ty elem : TypeId} {i : TypeInfo} (hu : P.underlying t = some (.slice elem)) (hi : P.info? elem = some i) (b : Option Addr) (n cap : Nat) (hn : n ≤ cap) (a : Option Addr) (c : Nat) :
    (Builtin.append_ #[t, t] ty #[.slice b n cap, .slice a 0 c]).run P w = .ok (.slice b n cap) w := by
  cases b <;> cases a <;> simp [Builtin.append_, run_underlying hu, sizeOf, typeInfo, hi, Builtin.lenOf, Builtin.firstCells, loadCells, loadCellsFrom, hn, storeCells]

/-- append onto a slice that has no room. -/
theorem append_new {t ty elem : TypeId} {i : TypeInfo} {z : Value} (hu : P.underlying t = some (.slice elem)) (hi : P.info? elem = some i) (hz : i.zero = some z) (hzs : z.cells.size = i.size) (hpos : 0 < i.size) {acc : List Nat}
    {b : Option Addr} {n cap : Nat} {olds news : List V} {ov nv : List Value} (hpre : Pre P I μ w hp acc (hp.length + 1)) (hol : (flat olds).length = n * i.size) (ho : CR P I μ w olds ov) (hb : b = none ∧ n = 0 ∧ cap = 0 ∨ ∃ ad, b = some ad ∧ ∀ j u, ov[j]? = some u → w.cell? (ad.add j) = some u)
    {a : Option Addr} {m c : Nat} (hm : 0 < m) (hnl : (flat news).length = m * i.size) (hn : CR P I μ w news nv) (hl : Lies w a nv) (hcap : cap < n + m) (h63 : n + m ≤ maxLen) (hby : (n + m) * i.bytes ≤ 140737488355328) :
    ∃ val w' μ', (Builtin.append_ #[t, t] ty #[.slice b n cap, .slice a m c]).run P w = .ok val w' ∧ V.R P I μ' w' (.sl hp.length 0 (n + m) false) val ∧ Good P I I μ μ' w w' hp (hp ++ [some (olds ++ news, elem)]) acc [] := by
  have hnv := hn.toRL.length
  have hov := ho.toRL.length
  have hne : nv ≠ [] := by
    rintro rfl
    have : 0 < m * i.size := Nat.mul_pos hm hpos
    simp at hnv; omega
  obtain ⟨ad, rfl, hcells⟩ := lies_cells hl hne
  have hsmall : n + m ≤ 9223372036854775807 := by simp only [maxLen] at h63; omega
  have fin : ∀ newCap, n + m ≤ newCap → newCap ≤ maxLen → ∀ row : Array Value, row = ov.toArray ++ nv.toArray ++ Builtin.zeroCells z.cells (newCap - (n + m)) →
      ∃ μ', V.R P I μ' (w.drew.alloc (.cells row elem)) (.sl hp.length 0 (n + m) false) (.slice (some ⟨w.heap.size, 0, none⟩) (n + m) newCap) ∧ Good P I I μ μ' w (w.drew.alloc (.cells row elem)) hp (hp ++ [some (olds ++ news, elem)]) acc [] := by
    intro newCap hge hcm row hrow
    have hrs : row.size = newCap * i.size := by
      rw [hrow]
      simp only [Array.size_append, List.size_toArray, size_zeroCells, hzs, hov, hnv, hol, hnl]
      rw [← Nat.add_mul, ← Nat.add_mul]; congr 1; omega
    have hlen : (flat (olds ++ news)).length = (n + m) * i.size := by rw [flat_append, List.length_append, hol, hnl, Nat.add_mul]
    have htake : row.toList.take (flat (olds ++ news)).length = ov ++ nv := by
      rw [hrow]
      have e : (ov.toArray ++ nv.toArray ++ Builtin.zeroCells z.cells (newCap - (n + m))).toList = (ov ++ nv) ++ (Builtin.zeroCells z.cells (newCap - (n + m))).toList := by simp
      have e2 : (flat (olds ++ news)).length = (ov ++ nv).length := by simp only [flat_append, List.length_append, hov, hnv]
      rw [e, e2]; exact List.take_left
    have hle2 : (n + m) * i.size ≤ newCap * i.size := Nat.mul_le_mul_right _ hge
    obtain ⟨hg, hsh⟩ := Good.newC (P := P) (I := I) (μ := μ) (w := w) (hp := hp) (acc := acc) (blk := (olds ++ news, elem)) (cs := row) (fr := (0, 0)) (wd := w.drew) (.inr rfl) hpre (.inl (Nat.le_refl _))
      ⟨by show (flat (olds ++ news)).length ≤ _; rw [hlen, hrs]; exact hle2, by show CR P I μ w (olds ++ news) (row.toList.take (flat (olds ++ news)).length); rw [htake]; exact ho.append hn⟩
    refine ⟨_, ?_, hg⟩
    simp only [V.R]
    exact ⟨_, newCap, elem, _, i, Mu.put_at _ _ _, rfl, hge, hcm, by simp, hsh, hi, by show 0 + newCap * i.size ≤ row.size; omega⟩
  rcases hb with ⟨rfl, rfl, rfl⟩ | ⟨bd, rfl, hb⟩
  · have hox : ov = [] := List.eq_nil_of_length_eq_zero (by rw [hov, hol]; simp)
    subst hox
    have hr := run_append_nil (P := P) w t ty elem i z hu hi hz ad m c nv (by rw [hnv, hnl]) hcells hm (by omega) (by simp only [Nat.zero_add] at hby; omega)
    obtain ⟨μ', h1, h2⟩ := fin (grownCap w m 0 elem) (by have := grownCap_ge w m 0 elem; omega) (grownCap_le_maxLen w m 0 elem (by omega)) _ rfl
    refine ⟨_, _, μ', by rw [hr], ?_, ?_⟩
    · simpa using h1
    · simpa using h2
  · have hr := run_append_grow (P := P) w t ty elem i z hu hi hz bd n cap ov (by rw [hov, hol]) hb ad m c nv (by rw [hnv, hnl]) hcells hcap (by omega) (growslice_fits (by omega) hby)
    obtain ⟨μ', h1, h2⟩ := fin (grownCap w (n + m) cap elem) (grownCap_ge w (n + m) cap elem) (grownCap_le_maxLen w (n + m) cap elem h63) _ rfl
    exact ⟨_, _, μ', hr, h1, h2⟩

theorem append_sound {t t' ty : TypeId} {x y : V} {vx vy : Value} (h : evAppend P hp t t' x y = some out) (hx : V.R P I μ w x vx) (hy : V.R P I μ w y vy) (pre : Pre P I μ w hp out.acc out.hp.length) :
    ∃ val w' μ', (Builtin.append_ #[t, t'] ty #[vx, vy]).run P w = .ok val w' ∧ V.R P I μ' w' out.v val ∧ Good P I I μ μ' w w' hp out.hp out.acc out.wr := by
  unfold evAppend at h
  split at h
  case h_2 => cases h
  case h_1 elem hu =>
  split at h
  case h_2 => cases h
  case h_1 i hi =>
  split at h
  case h_2 => cases h
  case h_1 z hz htt =>
  have htt' : t = t' := eq_of_beq htt
  subst htt'
  split at h
  case isFalse => cases h
  case isTrue hcond =>
  obtain ⟨hpos, hzs⟩ := hcond
  split at h
  case h_2 => cases h
  case h_1 bs m news hsrc =>
  split at h
  · -- onto an own slice
    rename_i b off n full
    split at h
    case h_2 => cases h
    case h_1 blk hb =>
    split at h
    case isFalse => cases h
    case isTrue hc =>
    obtain ⟨hl, h63, hby, he, hoff⟩ := hc
    subst hoff
    cases h
    simp only [V.R] at hx
    obtain ⟨g, cap, e', N, i', hg, rfl, hncap, hcm, hfull, hsh, hi', hN⟩ := hx
    obtain ⟨a, c, nv, rfl, h1, h2, hone, h3, _⟩ := src_sound hsrc hy fun b' hb' => pre.holds b' (by simp [hb'])
    have hpre1 : Pre P I μ w hp (b :: bs) (hp.length + 1) := by simpa using pre
    obtain ⟨g', cs, fr, hg', _, hw, hfr, hsz, hcr⟩ := pre.holds b (by simp) blk hb
    rw [hg] at hg'; cases hg'
    have hrow : Row w g blk.2 cs := ⟨fr, hw, hfr⟩
    have hcut := cut_sound hcr hl
    rw [List.drop_zero] at hcut
    have hshape := shape_of hw
    rw [hsh] at hshape
    cases hshape
    rw [he, hi] at hi'
    cases hi'
    have hnv := h2.toRL.length
    have hmul2 : (n + m) * i.size = n * i.size + m * i.size := Nat.add_mul _ _ _
    have hnle : n * i.size ≤ (flat blk.1).length := by simp at hl; omega
    have hlen : (flat (cutV blk.1 0 (n * i.size) ++ news)).length = (n + m) * i.size := by rw [flat_append, List.length_append, hcut.2, h1, hmul2]
    by_cases hroom : n + m ≤ cap
    · have hmul : (n + m) * i.size ≤ cap * i.size := Nat.mul_le_mul_right _ hroom
      have hcsz : (cs.toList.take (n * i.size) ++ nv ++ cs.toList.drop (n * i.size + nv.length)).toArray.size = cs.size := by
        simp only [List.size_toArray, List.length_append, List.length_take, List.length_drop, Array.length_toList]; omega
      have hr : (Builtin.append_ #[t, t] ty #[.slice (some ⟨g, 0, none⟩) n cap, .slice a m c]).run P w =
          .ok (.slice (some ⟨g, 0, none⟩) (n + m) cap) (w.setRow g (cs.toList.take (n * i.size) ++ nv ++ cs.toList.drop (n * i.size + nv.length)).toArray) := by
        cases m with
        | zero =>
          have hx0 : nv = [] := List.eq_nil_of_length_eq_zero (by rw [hnv, h1]; simp)
          subst hx0
          rw [append_zero hu hi _ n cap hncap a c]
          simp only [List.append_nil, List.length_nil, Nat.add_zero, List.take_append_drop, Array.toArray_toList]
          rw [setRow_self w g cs _ fr hw]
        | succ m =>
          have hne : nv ≠ [] := by
            rintro rfl
            have : 0 < (m + 1) * i.size := Nat.mul_pos (Nat.succ_pos m) hpos
            simp at hnv; omega
          obtain ⟨ad, rfl, hcells⟩ := lies_cells h3 hne
          have hf := run_firstCells_some (P := P) w i.size (m + 1) ad (m + 1) c nv (by rw [hnv, h1]) hcells
          have hst := storeCells_row P g (n * i.size) blk.2 nv 0 cs w hrow (by omega) hone
          simp only [Nat.add_zero] at hst
          simp [Builtin.append_, run_underlying hu, sizeOf, typeInfo, hi, Builtin.lenOf, hroom, hf, Addr.add_lit, hst]
      refine ⟨_, _, _, hr, ?_, Good.onto (blk' := (cutV blk.1 0 (n * i.size) ++ news, elem)) hpre1 (by simp) hb hg hw he.symm hcsz hfr ⟨?_, ?_⟩⟩
      · simp only [V.R]
        refine ⟨g, cap, elem, cs.size, i, Mu.put_at _ _ _, rfl, hroom, hcm, by simp, ?_, hi, by omega⟩
        rw [shape_of (setRow_heap w g cs _ _ fr hw), hcsz, he]
      · show (flat (cutV blk.1 0 (n * i.size) ++ news)).length ≤ _
        rw [hcsz, hlen]; omega
      · show CR P I μ w (cutV blk.1 0 (n * i.size) ++ news) (List.take (flat (cutV blk.1 0 (n * i.size) ++ news)).length _)
        have e1 : (List.take (n * i.size) cs.toList ++ nv).length = (flat (cutV blk.1 0 (n * i.size) ++ news)).length := by
          rw [hlen, List.length_append, List.length_take, hnv, h1, hmul2, Array.length_toList]; congr 1; omega
        rw [← e1]
        simp only [List.append_assoc]
        rw [← List.append_assoc, List.take_left' rfl]
        refine CR.append ?_ h2
        have := hcut.1
        rw [List.take_take, Nat.min_eq_left hnle] at this
        exact this
    · have hm : 0 < m := by omega
      obtain ⟨val, w', μ', hr, hR, hG⟩ := append_new (P := P) (ty := ty) (hp := hp) hu hi hz hzs hpos hpre1 hcut.2 hcut.1 (.inr ⟨_, rfl, fun j u hu => by rw [Addr.add_mid]; exact hrow.range 0 _ _ j u (by simpa using hu)⟩) (m := m) (c := c) hm h1 h2 h3 (show cap < n + m by omega) h63 hby
      have hat : ∀ (c : Nat) (blk'' : Blk), (hp.set b none ++ [some (cutV blk.1 0 (n * i.size) ++ news, elem)])[c]? = some (some blk'') → (hp ++ [some (cutV blk.1 0 (n * i.size) ++ news, elem)])[c]? = some (some blk'') := by
        intro c blk'' hc
        rw [List.getElem?_append] at hc ⊢
        simp only [List.length_set] at hc
        split at hc
        · rename_i hcl
          rw [if_pos hcl]
          rw [List.getElem?_set] at hc
          split at hc
          · first | (cases hc; done) | (split at hc <;> cases hc)
          · exact hc
        · rename_i hcl
          rw [if_neg hcl]; exact hc
      refine ⟨val, w', μ', hr, hR, ⟨.refl _, fun _ h => .inl h, hG.evo.mono (fun k hk => by obtain ⟨c, hc, _⟩ := hk; cases hc), hG.le, fun c k hk => ?_, fun c hc blk'' h => hG.holds c hc blk'' (hat _ _ h), fun c hc blk'' h k hk => ?_, fun c d b1 b2 k hne hc hd h1 h2 => hG.inj c d b1 b2 k hne hc hd (hat _ _ h1) (hat _ _ h2)⟩⟩
      · have := hG.dom c k hk; simpa using this
      · rcases hG.prov c hc blk'' (hat _ _ h) k hk with h | ⟨d, hd, _⟩
        · exact .inl h
        · cases hd
  · rename_i n full cs0
    split at h
    · cases h
      simp only [V.R] at hx
      have hx' := hx
      obtain ⟨a0, cap, rfl, hn, _⟩ := hx
      obtain ⟨a, c, nv, rfl, _⟩ := src_sound hsrc hy pre.holds
      exact ⟨_, _, _, append_zero hu hi a0 n cap hn a c, by simp only [V.R]; exact hx', Good.same hp pre⟩
    · split at h
      case isFalse => cases h
      case isTrue hc =>
      obtain ⟨hf, hl, h63, hby⟩ := hc
      subst hf
      cases h
      simp only [V.R] at hx
      obtain ⟨a0, cap, rfl, _, hfull, hnone, hmem⟩ := hx
      obtain rfl : cap = n := by simpa using hfull
      obtain ⟨a, c, nv, rfl, h1, h2, _, h3, _⟩ := src_sound hsrc hy pre.holds
      have key : ∃ ov : List Value, V.RL P I noMu w (cs0.take (cap * i.size)) ov ∧ (a0 = none ∧ cap = 0 ∧ cap = 0 ∨ ∃ ad, a0 = some ad ∧ ∀ j u, ov[j]? = some u → w.cell? (ad.add j) = some u) := by
        rcases hmem with rfl | ⟨g, off, rfl, _, cells, e, fr, hg, hrl⟩
        · refine ⟨[], by simp [V.RL], ?_⟩
          rcases hnone with ⟨rfl, h0⟩ | ⟨g, off, rfl⟩
          · exact .inl ⟨rfl, h0, h0⟩
          · exact .inr ⟨_, rfl, by simp⟩
        · refine ⟨((cells.toList.drop off).take cs0.length).take (cap * i.size), hrl.take _, .inr ⟨_, rfl, fun j v hv => ?_⟩⟩
          rw [Addr.add_mid]
          rw [List.getElem?_take] at hv
          split at hv
          · rw [List.getElem?_take] at hv
            split at hv
            · rw [List.getElem?_drop] at hv
              simpa [World.cell?, hg] using hv
            · cases hv
          · cases hv
      obtain ⟨ov, ho, hov⟩ := key
      exact append_new (P := P) (ty := ty) (olds := [.sld (cs0.take (cap * i.size))]) hu hi hz hzs hpos (by simpa using pre) (by simpa [flat] using hl) (.sealed ho) hov (Nat.succ_pos _) h1 h2 h3 (by omega) h63 hby
  · cases h

end
end Go.Proofs.YtlimecojoiimaaaGreat

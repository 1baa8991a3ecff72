/-
  The small evaluator's appends, conversions, slices and comparisons do what the machine does.
  The small evaluator's plain operations, all together.
  The small evaluator's plain operations: the whole.
  The small evaluator's plain operations: one law for all.
  The small evaluator: some more operations.
  The small evaluator: calls, regions, code, functions.
-/
import Derived.Test.YtfncaghjfgnnhaaGreatDoorJxAa
import Derived.Laws.MakeOwn
import Derived.Laws.Slices
namespace Go.Proofs.YtfncaghjfgnnhaaGreatDoor
open Go.RowKit

section
variable {P : Program} {I : Nat → Prop} {μ μ' : Mu} {w w' : World} {hp : Hp} {out : Out}

theorem makeSlice_sound {t : TypeId} {x y : V} {vx vy : Value} (h : evMakeSlice P hp t x y = some out) (hx : V.R P I μ w x vx) (hy : V.R P I μ w y vy) (pre : Pre P I μ w hp out.acc out.hp.length) :
    ∃ val w' μ', (Instr.makeSlice t vx vy).run P w = .ok val w' ∧ V.R P I μ' w' out.v val ∧ Good P I I μ μ' w w' hp out.hp out.acc out.wr := by
  unfold evMakeSlice at h
  split at h
  case h_2 => cases h
  case h_1 kl l kc c =>
  split at h
  case h_2 => cases h
  case h_1 elem hu =>
  split at h
  case h_2 => cases h
  case h_1 i hi =>
  split at h
  case h_2 => cases h
  case h_1 z hz =>
  split at h
  case isFalse => cases h
  case isTrue hcond =>
  obtain ⟨h0, hlc, hc, hb, hpos, hzs⟩ := hcond
  cases h
  simp only [V.R] at hx hy
  subst hx hy
  have hbytes : (i.bytes : Int) * c ≤ 281474976710656 := by
    have h1 : (i.bytes : Int) * c ≤ (1048576 : Int) * c := Int.mul_le_mul_of_nonneg_right (by omega) (by omega)
    omega
  have hr := run_make (P := P) w t elem i z hu hi hz kl kc l c h0 hlc hbytes (by omega)
  obtain ⟨hg, hsh⟩ := Good.newC (P := P) (I := I) (μ := μ) (w := w) (hp := hp) (acc := []) (blk := ([.sld (zeros (z.cells.toList.map ofScalar) (c.toNat * i.size))], elem)) (cs := madeCells z.cells (c.toNat * i.size)) (fr := (0, 0)) (wd := w) (.inl rfl)
    (by simpa using pre) (.inl (Nat.le_refl _)) (.sld (by simp [zeros, madeCells]) (by
      rw [List.take_of_length_le (by simp [zeros, madeCells])]
      exact RL_zeros _ _))
  refine ⟨_, _, _, hr, ?_, hg⟩
  simp only [V.R]
  refine .inl ⟨_, c.toNat, elem, _, i, Mu.put_at _ _ _ _, rfl, by omega, by simp only [maxLen]; omega, fun hf => ?_, hsh, hi, by simp [madeCells]⟩
  have := eq_of_beq hf; omega

theorem OS_nil {o : Bool} : OS P I w o [] [] [] := by
  cases o
  · exact ⟨rfl, by simp [V.RL]⟩
  · show V.OL P I w [] [] []
    exact OL_nil.2 ⟨rfl, rfl⟩
theorem noSeal_of_XL : ∀ {l : List V} {F : List Nat} {vs : List Value}, OXL P I μ w F l vs → hasSeal l = false
  | [], _, _, _ => rfl
  | x :: t, _, _, h => by
    obtain ⟨u, us, F1, F2, _, _, h1, h2⟩ := h
    have ih := noSeal_of_XL h2
    rcases seal_or x with ⟨o, c, rfl⟩ | hx
    · cases o <;> (unfold OX at h1; simp [mkS, V.isO, V.R] at h1)
    · rw [hasSeal_cons hx]; exact ih
theorem cut_sound {F : List Nat} {l : List V} {vs : List Value} {off k : Nat} (h : CR P I μ w F l vs) (hk : (((flat l).drop off).take k).length = k) : (∃ F', F'.Sublist F ∧ CR P I μ w F' (cutV l off k) ((vs.drop off).take k)) ∧ (flat (cutV l off k)).length = k := by
  unfold cutV
  split
  · rename_i hc
    obtain ⟨rfl, rfl⟩ := hc
    refine ⟨⟨F, .refl _, ?_⟩, rfl⟩
    rw [List.drop_zero, List.take_of_length_le (Nat.le_of_eq h.length)]
    exact h
  · obtain ⟨F1, F2, rfl, _, h2⟩ := h.toXL.split off
    obtain ⟨F3, F4, rfl, h3, _⟩ := h2.split k
    have hs := noSeal_of_XL h3
    refine ⟨⟨F3, ?_, .ofXL hs h3⟩, by rw [flat_noSeal hs]; exact hk⟩
    exact (List.sublist_append_left F3 F4).trans (List.sublist_append_right F1 _)
theorem one_noO {l : List V} (h : l.all V.one = true) : noOs l = true := by
  unfold noOs
  rw [List.all_eq_true] at h ⊢
  intro c hc
  have := h c hc
  cases c <;> first | rfl | simp [V.one] at this

theorem src_sound {size : Nat} {x : V} {vx : Value} {bs : List Nat} {m : Nat} {news : List V} (h : srcV hp size x = some (bs, m, news)) (hx : V.R P I μ w x vx) (hh : ∀ b ∈ bs, ∀ blk, hp[b]? = some (some blk) → Holds P I μ w b blk) :
    ∃ a c nv, vx = .slice a m c ∧ (flat news).length = m * size ∧ CR P I μ w [] news nv ∧ (∀ u ∈ nv, u.oneCell' = true) ∧ Lies w a nv ∧ (∀ b ∈ bs, b < hp.length) ∧ noOs (flat news) = true := by
  unfold srcV at h
  split at h
  · rename_i b off m' full
    split at h
    case h_2 => cases h
    case h_1 blk hb =>
    split at h
    case isFalse => cases h
    case isTrue hc =>
    cases h
    have hbl : ∀ b' ∈ [b], b' < hp.length := by simpa using (List.getElem?_eq_some_iff.1 hb).1
    have hno : noOs (flat (cutV blk.1 off (m * size))) = true := by
      have hone := one_noO hc.2
      unfold cutV
      split
      · rename_i h0
        obtain ⟨rfl, h0⟩ := h0
        rwa [List.drop_zero, List.take_of_length_le (by omega)] at hone
      · have hf : ∀ l : List V, l.all V.one = true → flat l = l := by
          intro l hl
          refine flat_noSeal ?_
          induction l with
          | nil => rfl
          | cons x t ih =>
            rw [List.all_cons, Bool.and_eq_true] at hl
            rcases seal_or x with ⟨o, c, rfl⟩ | hx
            · cases o <;> simp [mkS, V.one] at hl
            · have := ih hl.2
              rw [hasSeal_cons hx]; exact this
        rw [hf _ hc.2]; exact hone
    simp only [V.R] at hx
    rcases hx with ⟨g, cap, e, N, i, hg, rfl, _, _, _, hsh, _⟩ | ⟨rfl, rfl, a', rfl, ha'⟩
    · obtain ⟨cs, hrow, hsz, hrl⟩ := (hh b (by simp) blk hb).rowS hg hsh
      have hone := one_noO hc.2
      have hpart := hrl.part off (m * size) hone
      obtain ⟨⟨F', _, hr2⟩, hlen⟩ := cut_sound (off := off) hrl hc.1
      have hF : F' = [] := by
        have hx2 := hr2.toXL
        unfold cutV at hx2
        split at hx2
        · rename_i h0
          obtain ⟨rfl, h0⟩ := h0
          rw [List.drop_zero, List.take_of_length_le (by omega)] at hone
          exact (hx2.toRL hone).1
        · rw [flat_of_RL hpart] at hx2
          exact (hx2.toRL hone).1
      subst hF
      refine ⟨_, cap, _, rfl, hlen, hr2, ones hpart hc.2, .inr ⟨_, rfl, hrow.lt, fun j u hu => ?_⟩, hbl, hno⟩
      rw [Addr.add_mid]
      exact hrow.range off _ _ j u hu
    · refine ⟨a', 0, [], rfl, ?_, ?_, by simp, .inl rfl, hbl, hno⟩
      · have : (((flat blk.1).drop 0).take (0 * size)) = [] := by simp
        simp only [Nat.zero_mul, cutV]
        split
        · rename_i h0; exact h0.2
        · simp [flat]
      · simp only [Nat.zero_mul, cutV]
        split
        · rename_i h0
          have hh' := hh b (by simp) blk hb
          have hfl : flat blk.1 = [] := List.eq_nil_of_length_eq_zero h0.2
          have : ∀ l : List V, flat l = [] → CR P I μ w [] l [] := by
            intro l
            induction l with
            | nil => intro _; exact CR.nil_iff.2 ⟨rfl, rfl⟩
            | cons x t ih =>
              intro hl
              rcases seal_or x with ⟨o, c, rfl⟩ | hx
              · rw [flat_sealO, List.append_eq_nil_iff] at hl
                rw [hl.1]
                exact CR.sealO_iff.2 ⟨[], [], [], [], rfl, rfl, OS_nil, ih hl.2⟩
              · rw [flat_cons hx] at hl; cases hl
          exact this _ hfl
        · simp only [List.take_zero]; exact CR.nil_iff.2 ⟨rfl, rfl⟩
  · rename_i m' full cs
    split at h
    case isFalse => cases h
    case isTrue hc =>
    cases h
    simp only [V.R] at hx
    obtain ⟨a, cap, rfl, hnc, _, hnone, hmem⟩ := hx
    have key : ∃ nv : List Value, V.RL P I noMu w (cs.take (m * size)) nv ∧ Lies w a nv := by
      rcases hmem with rfl | rfl | ⟨g, off, rfl, _, cells, e, fr, hg, hrl⟩
      · exact ⟨[], by simp [V.RL], .inl rfl⟩
      · exact ⟨[], by simp [V.RL], .inl rfl⟩
      · refine ⟨((cells.toList.drop off).take cs.length).take (m * size), hrl.take _, .inr ⟨_, rfl, (Array.getElem?_eq_some_iff.1 hg).1, fun j v hv => ?_⟩⟩
        rw [Addr.add_mid]
        rw [List.getElem?_take] at hv
        split at hv
        · rw [List.getElem?_take] at hv
          split at hv
          · rw [List.getElem?_drop] at hv
            simpa [World.cell?, hg] using hv
          · cases hv
        · cases hv
    obtain ⟨nv, h1, h2⟩ := key
    exact ⟨_, cap, nv, rfl, by simpa [flat] using hc.1, .sealed h1, ones h1 hc.2, h2, by simp, by simpa [flat] using one_noO hc.2⟩
  · cases h

theorem lies_cells {a : Option Addr} {nv : List Value} (h : Lies w a nv) (hne : nv ≠ []) : ∃ ad, a = some ad ∧ ∀ j u, nv[j]? = some u → w.cell? (ad.add j) = some u := by
  rcases h with h | ⟨ad, h1, _, h2⟩
  · exact absurd h hne
  · exact ⟨ad, h1, h2⟩

theorem append_zero {t ty elem : TypeId} {i : TypeInfo} (hu : P.underlying t = some (.slice elem)) (hi : P.info? elem = some i) (b : Option Addr) (n cap : Nat) (hn : n ≤ cap) (a : Option Addr) (c : Nat) :
    (Builtin.append_ #[t, t] ty #[.slice b n cap, .slice a 0 c]).run P w = .ok (.slice b n cap) w := by
  cases b <;> cases a <;> simp [Builtin.append_, run_underlying hu, sizeOf, typeInfo, hi, Builtin.lenOf, Builtin.firstCells, loadCells, loadCellsFrom, hn, storeCells]

theorem append_new {t ty elem : TypeId} {i : TypeInfo} {z : Value} (hu : P.underlying t = some (.slice elem)) (hi : P.info? elem = some i) (hz : i.zero = some z) (hzs : z.cells.size = i.size) (hpos : 0 < i.size)
    {b : Option Addr} {n cap : Nat} {F : List Nat} {olds news : List V} {ov nv : List Value} (hol : (flat olds).length = n * i.size) (ho : CR P I μ w F olds ov) (hb : b = none ∧ n = 0 ∧ cap = 0 ∨ ∃ ad, b = some ad ∧ ∀ j u, ov[j]? = some u → w.cell? (ad.add j) = some u)
    {a : Option Addr} {m c : Nat} (hm : 0 < m) (hnl : (flat news).length = m * i.size) (hn : CR P I μ w [] news nv) (hl : Lies w a nv) (hcap : cap < n + m) (h63 : n + m ≤ maxLen) (hby : (n + m) * i.bytes ≤ 140737488355328) :
    ∃ newCap row, (Builtin.append_ #[t, t] ty #[.slice b n cap, .slice a m c]).run P w = .ok (.slice (some ⟨w.heap.size, 0, none⟩) (n + m) newCap) (w.drew.alloc (.cells row elem)) ∧ Cont P I μ w F (olds ++ news) row ∧ row.size = newCap * i.size ∧ n + m ≤ newCap ∧ newCap ≤ maxLen := by
  have hnv := hn.length
  have hov := ho.length
  have hne : nv ≠ [] := by
    rintro rfl
    have : 0 < m * i.size := Nat.mul_pos hm hpos
    simp at hnv; omega
  obtain ⟨ad, rfl, hcells⟩ := lies_cells hl hne
  have hsmall : n + m ≤ 9223372036854775807 := by simp only [maxLen] at h63; omega
  have fin : ∀ newCap, n + m ≤ newCap → ∀ row : Array Value, row = ov.toArray ++ nv.toArray ++ Builtin.zeroCells z.cells (newCap - (n + m)) →
      Cont P I μ w F (olds ++ news) row ∧ row.size = newCap * i.size := by
    intro newCap hge row hrow
    have hrs : row.size = newCap * i.size := by
      rw [hrow]
      simp only [Array.size_append, List.size_toArray, size_zeroCells, hzs, hov, hnv, hol, hnl]
      rw [← Nat.add_mul, ← Nat.add_mul]; congr 1; omega
    have hlen : (flat (olds ++ news)).length = (n + m) * i.size := by rw [flat_append, List.length_append, hol, hnl, Nat.add_mul]
    have htake : row.toList.take (flat (olds ++ news)).length = ov ++ nv := by
      rw [hrow]
      have e : (ov.toArray ++ nv.toArray ++ Builtin.zeroCells z.cells (newCap - (n + m))).toList = (ov ++ nv) ++ (Builtin.zeroCells z.cells (newCap - (n + m))).toList := by simp
      have e2 : (flat (olds ++ news)).length = (ov ++ nv).length := by simp only [flat_append, List.length_append, hov, hnv]
      rw [e, e2]; exact List.take_left
    have hle2 : (n + m) * i.size ≤ newCap * i.size := Nat.mul_le_mul_right _ hge
    refine ⟨⟨by rw [hlen, hrs]; exact hle2, ?_⟩, hrs⟩
    rw [htake]
    have := ho.append hn
    rwa [List.append_nil] at this
  rcases hb with ⟨rfl, rfl, rfl⟩ | ⟨bd, rfl, hb⟩
  · have hox : ov = [] := List.eq_nil_of_length_eq_zero (by rw [hov, hol]; simp)
    subst hox
    have hr := run_append_nil (P := P) w t ty elem i z hu hi hz ad m c nv (by rw [hnv, hnl]) hcells hm (by omega) (by simp only [Nat.zero_add] at hby; omega)
    have hge : 0 + m ≤ grownCap w m 0 elem := by have := grownCap_ge w m 0 elem; omega
    obtain ⟨h1, h2⟩ := fin (grownCap w m 0 elem) hge _ rfl
    refine ⟨grownCap w m 0 elem, _, ?_, h1, h2, hge, grownCap_le_maxLen w m 0 elem (by omega)⟩
    rw [hr]; simp
  · have hr := run_append_grow (P := P) w t ty elem i z hu hi hz bd n cap ov (by rw [hov, hol]) hb ad m c nv (by rw [hnv, hnl]) hcells hcap (by omega) (growslice_fits (by omega) hby)
    obtain ⟨h1, h2⟩ := fin (grownCap w (n + m) cap elem) (grownCap_ge w (n + m) cap elem) _ rfl
    exact ⟨_, _, hr, h1, h2, grownCap_ge w (n + m) cap elem, grownCap_le_maxLen w (n + m) cap elem h63⟩

theorem append_sound {t t' ty : TypeId} {x y : V} {vx vy : Value} (h : evAppend P hp t t' x y = some out) (hx : V.R P I μ w x vx) (hy : V.R P I μ w y vy) (pre : Pre P I μ w hp out.acc out.hp.length) :
    ∃ val w' μ', (Builtin.append_ #[t, t'] ty #[vx, vy]).run P w = .ok val w' ∧ V.R P I μ' w' out.v val ∧ Good P I I μ μ' w w' hp out.hp out.acc out.wr := by
  unfold evAppend at h
  split at h
  case h_2 => cases h
  case h_1 elem hu =>
  split at h
  case h_2 => cases h
  case h_1 i hi =>
  split at h
  case h_2 => cases h
  case h_1 z hz htt =>
  have htt' : t = t' := eq_of_beq htt
  subst htt'
  split at h
  case isFalse => cases h
  case isTrue hcond =>
  obtain ⟨hpos, hzs⟩ := hcond
  split at h
  case h_2 => cases h
  case h_1 bs m news hsrc =>
  have hdrew : ∀ row : Array Value, Evo I w (w.drew.alloc (.cells row elem)) (fun _ => False) := fun row => (Evo.drew w _).trans (.alloc _ _ _) (.refl _) (fun _ _ h => h)
  have hnew : ∀ row : Array Value, (w.drew.alloc (.cells row elem)).heap[w.heap.size]? = some (.cells row elem (0, 0)) := fun row => heap_alloc_new w.drew _
  split at h
  · -- onto an own slice
    rename_i b off n full
    split at h
    case h_2 => cases h
    case h_1 blk hb =>
    split at h
    case isFalse => cases h
    case isTrue hc =>
    obtain ⟨hl, h63, hby, he, hoff⟩ := hc
    subst hoff
    cases h
    simp only [V.R] at hx
    obtain ⟨a, c, nv, rfl, h1, h2, hone, h3, _⟩ := src_sound hsrc hy fun b' hb' => pre.holds b' (by simp [hb'])
    have hpre1 : Pre P I μ w hp (b :: bs) (hp.length + 1) := by simpa using pre
    have hnv := h2.length
    have hmul2 : (n + m) * i.size = n * i.size + m * i.size := Nat.add_mul _ _ _
    have hnew2 : ∀ (F : List Nat) (newCap : Nat) (row : Array Value), F.Sublist (μ.ft b) → Cont P I μ w F (cutV blk.1 0 (n * i.size) ++ news) row → row.size = newCap * i.size → n + m ≤ newCap → newCap ≤ maxLen →
        V.R P I (μ.put hp.length w.heap.size F) (w.drew.alloc (.cells row elem)) (.sl hp.length 0 (n + m) false) (.slice (some ⟨w.heap.size, 0, none⟩) (n + m) newCap) ∧
        Good P I I μ (μ.put hp.length w.heap.size F) w (w.drew.alloc (.cells row elem)) hp (hp.set b none ++ [some (cutV blk.1 0 (n * i.size) ++ news, elem)]) (b :: bs) [b] := by
      intro F newCap row hF hcont hrs hge hcm
      refine ⟨?_, ?_⟩
      · simp only [V.R]
        exact .inl ⟨_, newCap, elem, row.size, i, Mu.put_at _ _ _ _, rfl, hge, hcm, by simp, shape_of (hnew row), hi, by omega⟩
      · exact Good.killC (blk' := (cutV blk.1 0 (n * i.size) ++ news, elem)) hpre1 (by simp) hb (hdrew row) (fun k hk => hk.elim) (fun k _ h => h) hF (.inl ⟨Nat.le_refl _, by simp⟩) (fun hi => Nat.lt_irrefl _ (pre.ilt _ hi)) (hnew row) (.inl (Nat.le_refl _)) hcont
    rcases hx with ⟨g, cap, e', N, i', hg, rfl, hncap, hcm, hfull, hsh, hi', hN⟩ | ⟨_, rfl, a', rfl, ha'⟩
    · obtain ⟨cs, fr, hgi, hw, hfr, ⟨hsz, hcr⟩, hnd, _⟩ := (pre.holds b (by simp) blk hb).realS hg hsh
      have hrow : Row w g blk.2 cs := ⟨fr, hw, hfr⟩
      obtain ⟨⟨F', hF', hcut⟩, hcutl⟩ := cut_sound (off := 0) hcr hl
      rw [List.drop_zero] at hcut
      have hshape := shape_of hw
      rw [hsh] at hshape
      cases hshape
      rw [he, hi] at hi'
      cases hi'
      have hnle : n * i.size ≤ (flat blk.1).length := by simp at hl; omega
      have hlen : (flat (cutV blk.1 0 (n * i.size) ++ news)).length = (n + m) * i.size := by rw [flat_append, List.length_append, hcutl, h1, hmul2]
      by_cases hroom : n + m ≤ cap
      · have hmul : (n + m) * i.size ≤ cap * i.size := Nat.mul_le_mul_right _ hroom
        have hcsz : (cs.toList.take (n * i.size) ++ nv ++ cs.toList.drop (n * i.size + nv.length)).toArray.size = cs.size := by
          simp only [List.size_toArray, List.length_append, List.length_take, List.length_drop, Array.length_toList]; omega
        have hr : (Builtin.append_ #[t, t] ty #[.slice (some ⟨g, 0, none⟩) n cap, .slice a m c]).run P w =
            .ok (.slice (some ⟨g, 0, none⟩) (n + m) cap) (w.setRow g (cs.toList.take (n * i.size) ++ nv ++ cs.toList.drop (n * i.size + nv.length)).toArray) := by
          cases m with
          | zero =>
            have hx0 : nv = [] := List.eq_nil_of_length_eq_zero (by rw [hnv, h1]; simp)
            subst hx0
            rw [append_zero hu hi _ n cap hncap a c]
            simp only [List.append_nil, List.length_nil, Nat.add_zero, List.take_append_drop, Array.toArray_toList]
            rw [setRow_self w g cs _ fr hw]
          | succ m =>
            have hne : nv ≠ [] := by
              rintro rfl
              have : 0 < (m + 1) * i.size := Nat.mul_pos (Nat.succ_pos m) hpos
              simp at hnv; omega
            obtain ⟨ad, rfl, hcells⟩ := lies_cells h3 hne
            have hf := run_firstCells_some (P := P) w i.size (m + 1) ad (m + 1) c nv (by rw [hnv, h1]) hcells
            have hst := storeCells_row P g (n * i.size) blk.2 nv 0 cs w hrow (by omega) hone
            simp only [Nat.add_zero] at hst
            simp [Builtin.append_, run_underlying hu, sizeOf, typeInfo, hi, Builtin.lenOf, hroom, hf, Addr.add_lit, hst]
        have hE0 : Evo I w (w.setRow g (cs.toList.take (n * i.size) ++ nv ++ cs.toList.drop (n * i.size + nv.length)).toArray) (fun k => k = g) := .setRow w g cs _ _ fr hw hcsz hgi
        have hgF : ∀ k ∈ F', ¬ k = g := by
          rintro k hk rfl
          rw [List.nodup_cons] at hnd
          exact hnd.1 (hF'.subset hk)
        refine ⟨_, _, μ.put hp.length g F', hr, ?_, Good.killC (blk' := (cutV blk.1 0 (n * i.size) ++ news, elem)) hpre1 (by simp) hb hE0 (fun k hk => by rw [hk]; exact .inl hg) hgF hF' (.inr hg) hgi (by rw [← he]; exact setRow_heap w g cs _ _ fr hw) (by rw [hcsz]; exact hfr) ⟨?_, ?_⟩⟩
        · simp only [V.R]
          refine .inl ⟨g, cap, elem, cs.size, i, Mu.put_at _ _ _ _, rfl, hroom, hcm, by simp, ?_, hi, by omega⟩
          rw [shape_of (setRow_heap w g cs _ _ fr hw), hcsz, he]
        · show (flat (cutV blk.1 0 (n * i.size) ++ news)).length ≤ _
          rw [hcsz, hlen]; omega
        · show CR P I μ w F' (cutV blk.1 0 (n * i.size) ++ news) (List.take (flat (cutV blk.1 0 (n * i.size) ++ news)).length _)
          have e1 : (List.take (n * i.size) cs.toList ++ nv).length = (flat (cutV blk.1 0 (n * i.size) ++ news)).length := by
            rw [hlen, List.length_append, List.length_take, hnv, h1, hmul2, Array.length_toList]; congr 1; omega
          rw [← e1]
          simp only [List.append_assoc]
          rw [← List.append_assoc, List.take_left' rfl]
          rw [List.take_take, Nat.min_eq_left hnle] at hcut
          have := hcut.append h2
          rwa [List.append_nil] at this
      · have hm : 0 < m := by omega
        obtain ⟨newCap, row, hr, hcont, hrs, hge, hcm2⟩ := append_new (P := P) (ty := ty) hu hi hz hzs hpos hcutl hcut (.inr ⟨_, rfl, fun j u hu => by rw [Addr.add_mid]; exact hrow.range 0 _ _ j u (by simpa using hu)⟩) (m := m) (c := c) hm h1 h2 h3 (show cap < n + m by omega) h63 hby
        obtain ⟨k1, k2⟩ := hnew2 F' newCap row hF' hcont hrs hge hcm2
        exact ⟨_, _, _, hr, k1, k2⟩
    · -- onto one that is nil
      have hcut0 : CR P I μ w [] (cutV blk.1 0 (0 * i.size)) [] ∧ (flat (cutV blk.1 0 (0 * i.size))).length = 0 * i.size := by
        have hnil : ∀ l : List V, flat l = [] → CR P I μ w [] l [] := by
          intro l
          induction l with
          | nil => intro _; exact CR.nil_iff.2 ⟨rfl, rfl⟩
          | cons x t ih =>
            intro hl
            rcases seal_or x with ⟨o, c, rfl⟩ | hx
            · rw [flat_sealO, List.append_eq_nil_iff] at hl
              rw [hl.1]
              exact CR.sealO_iff.2 ⟨[], [], [], [], rfl, rfl, OS_nil, ih hl.2⟩
            · rw [flat_cons hx] at hl; cases hl
        unfold cutV
        split
        · rename_i h0
          exact ⟨hnil _ (List.eq_nil_of_length_eq_zero (by simpa using h0.2)), h0.2⟩
        · simp only [Nat.zero_mul, List.take_zero]
          exact ⟨CR.nil_iff.2 ⟨rfl, rfl⟩, rfl⟩
      cases m with
      | zero =>
        have hx0 : nv = [] := List.eq_nil_of_length_eq_zero (by rw [hnv, h1]; simp)
        subst hx0
        refine ⟨_, w, μ.put hp.length 0 [] |> fun _ => ⟨μ.nm, fun c => if c = hp.length then [] else μ.ft c⟩, append_zero hu hi a' 0 0 (Nat.le_refl _) a c, ?_, ?_⟩
        · simp only [V.R]; exact .inr ⟨trivial, trivial, a', rfl, ha'⟩
        · have hbl : b < hp.length := (List.getElem?_eq_some_iff.1 hb).1
          have hfresh := hpre1.fresh hp.length (Nat.le_refl _) (by omega)
          have hown : ∀ c k, c ≠ hp.length → (Mu.own ⟨μ.nm, fun c => if c = hp.length then [] else μ.ft c⟩ c k) → μ.own c k := by
            intro c k hc hk
            rcases hk with hk | hk
            · exact .inl hk
            · simp only [hc, if_false] at hk; exact .inr hk
          have hno : ∀ k, ¬ Mu.own ⟨μ.nm, fun c => if c = hp.length then [] else μ.ft c⟩ hp.length k := by
            intro k hk
            rcases hk with hk | hk
            · have hk' : μ hp.length = some k := hk
              rw [hfresh] at hk'; cases hk'
            · simp at hk
          refine ⟨.refl _, fun _ h => .inl h, .refl _ _, fun _ _ h => h, fun b g h => .inl h, fun c _ hn => ?_, fun c hc blk'' h => ?_, fun c hc blk'' h k hk => ?_, fun c d b1 b2 k hne hc hd h1 h2 k1 k2 => ?_⟩
          · show (if c = hp.length then [] else μ.ft c) = μ.ft c
            rw [if_neg (by rintro rfl; exact hn ⟨Nat.le_refl _, by simp⟩)]
          · rcases app_at h with ⟨hl, h⟩ | ⟨hl, rfl⟩
            · obtain ⟨hcb, h⟩ := setnone_at h
              simp only [List.length_set] at hl
              have hc' : c ∈ b :: bs := by rcases hc with hc | hc; exact hc; omega
              exact (hpre1.holds c hc' blk'' h).keep (.refl w (fun _ => False)) (.refl _) (fun _ _ h => h) (fun h => h) (by show (if c = hp.length then [] else μ.ft c) = μ.ft c; rw [if_neg (by omega)]) (fun _ _ h => h) (fun k hk => (hpre1.holds c hc' blk'' h).nimm hk)
            · simp only [List.length_set] at hl
              subst hl
              exact .inr (.inl ⟨hfresh, by simp⟩)
          · rcases app_at h with ⟨hl, h⟩ | ⟨hl, rfl⟩
            · obtain ⟨hcb, h⟩ := setnone_at h
              simp only [List.length_set] at hl
              rcases hc with hc | hc
              · omega
              · exact absurd (by simpa using hc) hcb
            · simp only [List.length_set] at hl
              subst hl
              exact (hno k hk).elim
          · rcases app_at h1 with ⟨hl, h1⟩ | ⟨hl, _⟩
            · obtain ⟨hcb, h1⟩ := setnone_at h1
              simp only [List.length_set] at hl
              rcases app_at h2 with ⟨hl', h2⟩ | ⟨hl', _⟩
              · obtain ⟨hdb, h2⟩ := setnone_at h2
                simp only [List.length_set] at hl'
                have hc' : c ∈ b :: bs := by rcases hc with hc | hc; exact hc; omega
                have hd' : d ∈ b :: bs := by rcases hd with hd | hd; exact hd; omega
                exact hpre1.inj c hc' d hd' _ _ k hne h1 h2 (hown c k (by omega) k1) (hown d k (by omega) k2)
              · simp only [List.length_set] at hl'
                subst hl'; exact (hno k k2).elim
            · simp only [List.length_set] at hl
              subst hl; exact (hno k k1).elim
      | succ m =>
        obtain ⟨newCap, row, hr, hcont, hrs, hge, hcm2⟩ := append_new (P := P) (ty := ty) (b := a') (cap := 0) hu hi hz hzs hpos hcut0.2 hcut0.1 (by rcases ha' with h | ⟨g, off, h⟩; exact .inl ⟨h, rfl, rfl⟩; exact .inr ⟨_, h, by simp⟩) (m := m + 1) (c := c) (by omega) h1 h2 h3 (by omega) h63 hby
        obtain ⟨k1, k2⟩ := hnew2 [] newCap row (List.nil_sublist _) hcont hrs hge hcm2
        exact ⟨_, _, _, hr, k1, k2⟩
  · rename_i n full cs0
    split at h
    · cases h
      simp only [V.R] at hx
      have hx' := hx
      obtain ⟨a0, cap, rfl, hn, _⟩ := hx
      obtain ⟨a, c, nv, rfl, _⟩ := src_sound hsrc hy pre.holds
      exact ⟨_, _, _, append_zero hu hi a0 n cap hn a c, by simp only [V.R]; exact hx', Good.same hp pre⟩
    · split at h
      case isFalse => cases h
      case isTrue hc =>
      obtain ⟨hf, hl, h63, hby⟩ := hc
      subst hf
      cases h
      simp only [V.R] at hx
      obtain ⟨a0, cap, rfl, _, hfull, hnone, hmem⟩ := hx
      obtain rfl : cap = n := by simpa using hfull
      obtain ⟨a, c, nv, rfl, h1, h2, _, h3, _⟩ := src_sound hsrc hy pre.holds
      have key : ∃ ov : List Value, V.RL P I noMu w (cs0.take (cap * i.size)) ov ∧ (a0 = none ∧ cap = 0 ∧ cap = 0 ∨ ∃ ad, a0 = some ad ∧ ∀ j u, ov[j]? = some u → w.cell? (ad.add j) = some u) := by
        have nilC : cs0.take (cap * i.size) = [] → ∃ ov : List Value, V.RL P I noMu w (cs0.take (cap * i.size)) ov ∧ (a0 = none ∧ cap = 0 ∧ cap = 0 ∨ ∃ ad, a0 = some ad ∧ ∀ j u, ov[j]? = some u → w.cell? (ad.add j) = some u) := by
          intro h0
          refine ⟨[], by rw [h0]; simp [V.RL], ?_⟩
          rcases hnone with ⟨rfl, h0⟩ | ⟨g, off, rfl⟩
          · exact .inl ⟨rfl, h0, h0⟩
          · exact .inr ⟨_, rfl, by simp⟩
        rcases hmem with rfl | h0 | ⟨g, off, rfl, _, cells, e, fr, hg, hrl⟩
        · exact nilC (by simp)
        · exact nilC (by rw [h0]; simp)
        · refine ⟨((cells.toList.drop off).take cs0.length).take (cap * i.size), hrl.take _, .inr ⟨_, rfl, fun j v hv => ?_⟩⟩
          rw [Addr.add_mid]
          rw [List.getElem?_take] at hv
          split at hv
          · rw [List.getElem?_take] at hv
            split at hv
            · rw [List.getElem?_drop] at hv
              simpa [World.cell?, hg] using hv
            · cases hv
          · cases hv
      obtain ⟨ov, ho, hov⟩ := key
      obtain ⟨newCap, row, hr, hcont, hrs, hge, hcm2⟩ := append_new (P := P) (ty := ty) (μ := μ) (olds := [.sld (cs0.take (cap * i.size))]) hu hi hz hzs hpos (by simpa [flat] using hl) (.sealed ho) hov (Nat.succ_pos _) h1 h2 h3 (by omega) h63 hby
      obtain ⟨hg, hsh⟩ := Good.newC (P := P) (I := I) (μ := μ) (w := w) (hp := hp) (blk := ([.sld (cs0.take (cap * i.size))] ++ news, elem)) (cs := row) (fr := (0, 0)) (wd := w.drew) (.inr rfl) (by simpa using pre) (.inl (Nat.le_refl _)) hcont
      refine ⟨_, _, _, hr, ?_, hg⟩
      simp only [V.R]
      exact .inl ⟨_, newCap, elem, row.size, i, Mu.put_at _ _ _ _, rfl, hge, hcm2, by simp, hsh, hi, by omega⟩
  · cases h

end
end Go.Proofs.YtfncaghjfgnnhaaGreatDoor

namespace Go.Proofs.YtfncaghjfgnnhaaGreatDoor
open Go.RowKit

section
variable {P : Program} {I : Nat → Prop} {μ μ' : Mu} {w w' : World} {hp : Hp} {out : Out}

theorem len_sound {t ty : TypeId} {x : V} {vx : Value} (h : evLen P hp t x = some out) (hx : V.R P I μ w x vx) :
    out.hp = hp ∧ out.wr = [] ∧ out.acc = [] ∧ ∃ val, (Builtin.len_ #[t] ty #[vx]).run P w = .ok val w ∧ V.R P I μ w out.v val := by
  unfold evLen at h
  split at h
  case h_4 => cases h
  all_goals (split at h <;> cases h) <;> rename_i hu <;> simp only [V.R] at hx
  · subst hx
    refine ⟨rfl, rfl, rfl, goInt _, by simp [Builtin.len_, run_underlying hu]; rfl, by simp [V.R, goInt, ByteArray.size]⟩
  · rcases hx with ⟨g, cap, e, N, i, _, rfl, _⟩ | ⟨_, rfl, a', rfl, _⟩
    · refine ⟨rfl, rfl, rfl, _, by simp [Builtin.len_, run_underlying hu]; rfl, by simp [V.R, goInt]⟩
    · refine ⟨rfl, rfl, rfl, _, by simp [Builtin.len_, run_underlying hu]; rfl, by simp [V.R, goInt]⟩
  · obtain ⟨a, cap, rfl, _⟩ := hx
    refine ⟨rfl, rfl, rfl, _, by simp [Builtin.len_, run_underlying hu]; rfl, by simp [V.R, goInt]⟩

theorem flatEq_sound {d : Nat} {f : Field} {x y : V} {vx vy : Value} {r : Bool} (h : flatEq P f x y = some r) (hx : V.R P I μ w x vx) (hy : V.R P I μ w y vy) :
    (Op.equalIn (d + 1) f.type vx vy).run P w = .ok r w ∧ ∃ dd, P.underlying f.type = some dd ∧ rowD dd = false := by
  unfold flatEq at h
  split at h
  case h_4 => cases h
  all_goals rename_i hu; simp only [V.R] at hx hy
  · subst hx hy
    split at h
    · rename_i hk; subst hk; cases h
      exact ⟨run_equalIn_int w d _ _ _ _ _ hu, _, hu, rfl⟩
    · cases h
  · subst hx hy; cases h; exact ⟨run_equalIn_bool w d _ _ _ hu, _, hu, rfl⟩
  · subst hx hy; cases h
    refine ⟨?_, _, hu, rfl⟩
    rw [run_equalIn_string w d _ _ _ hu]; simp

theorem flatEqs_sound {d : Nat} {xs ys : List V} {vx vy : Array Value} (hx : V.RL P I μ w xs vx.toList) (hy : V.RL P I μ w ys vy.toList) : ∀ {fs : List Field} {r : Bool}, flatEqs P xs ys fs = some r →
    (Op.eqFields (d + 1) vx vy fs).run P w = .ok r w
  | [], r, h => by cases h; simp [Op.eqFields]
  | f :: fs, r, h => by
    unfold flatEqs at h
    split at h
    case isTrue => cases h
    case isFalse hn =>
    split at h
    case h_2 => cases h
    case h_1 x y hxo hyo =>
    obtain ⟨u, hu, hru⟩ := hx.get hxo
    obtain ⟨v, hv, hrv⟩ := hy.get hyo
    have hpart : ∀ (vs : Array Value) (u : Value) (dd : TypeDesc), vs.toList[f.offset]? = some u → P.underlying f.type = some dd → rowD dd = false → (part f.type vs f.offset).run P w = .ok u w := by
      intro vs u dd hu hd hr
      rw [Array.getElem?_toList] at hu
      simp only [part, Sem.run_bind, run_isAgg hd, Result.andThen_ok, hr, Bool.false_eq_true, if_false, hu, Sem.run_pure]
    split at h
    · rename_i he
      obtain ⟨h1, dd, hd, hr⟩ := flatEq_sound (d := d) he hru hrv
      have ih := flatEqs_sound (d := d) hx hy h
      simp only [Op.eqFields, ne_eq, hn, not_false_eq_true, if_true, Sem.run_bind, hpart vx u dd hu hd hr, hpart vy v dd hv hd hr, Result.andThen_ok, h1, Bool.not_true, Bool.false_eq_true, if_false, ih]
    · rename_i he
      cases h
      obtain ⟨h1, dd, hd, hr⟩ := flatEq_sound (d := d) he hru hrv
      simp only [Op.eqFields, ne_eq, hn, not_false_eq_true, if_true, Sem.run_bind, hpart vx u dd hu hd hr, hpart vy v dd hv hd hr, Result.andThen_ok, h1, Bool.not_false, Sem.run_pure]
    · cases h

theorem int_sound {t : TypeId} {op : BinOp} {k : IntKind} {a b : Int} {v : V} (h : evInt op k a b = some v) : ∃ val, (binOp op t (.int k a) (.int k b)).run P w = .ok val w ∧ V.R P I μ w v val := by
  unfold evInt at h
  split at h
  · cases h; exact ⟨.int k (k.wrap (a + b)), by simp [binOp, Op.intArith], by simp [V.R]⟩
  · cases h; exact ⟨.int k (k.wrap (a - b)), by simp [binOp, Op.intArith], by simp [V.R]⟩
  · cases h; exact ⟨.int k (k.wrap (a * b)), by simp [binOp, Op.intArith], by simp [V.R]⟩
  · split at h
    · cases h
    · rename_i hb; cases h; exact ⟨.int k (k.wrap (a.tdiv b)), by simp [binOp, Op.intDiv, hb], by simp [V.R]⟩
  · split at h
    · cases h
    · rename_i hb; cases h; exact ⟨.int k (a.tmod b), by simp [binOp, Op.intDiv, hb], by simp [V.R]⟩
  · unfold evCmp at h
    split at h <;> cases h
    all_goals refine ⟨_, by simp only [binOp]; simp [Op.intCmp]; rfl, by simp [V.R]⟩

theorem str_sound {t : TypeId} {op : BinOp} {a b : List UInt8} {v : V} (h : evStr op a b = some v) : ∃ val, (binOp op t (.string ⟨a.toArray⟩) (.string ⟨b.toArray⟩)).run P w = .ok val w ∧ V.R P I μ w v val := by
  unfold evStr at h
  split at h
  · split at h
    · rename_i hl
      cases h
      refine ⟨.string ⟨(a ++ b).toArray⟩, ?_, by simp [V.R]⟩
      have hn : ¬ (9223372036854775807 < (a.length : Int) + (b.length : Int)) := by omega
      have e : (⟨a.toArray⟩ ++ ⟨b.toArray⟩ : ByteArray) = ⟨(a ++ b).toArray⟩ := by apply ByteArray.ext; simp
      simp only [binOp]
      simp [Op.stringOp, ByteArray.size, hn, e]
    · cases h
  all_goals first | (cases h; done) | skip
  all_goals
    cases h
    refine ⟨_, by simp only [binOp]; simp [Op.stringOp]; rfl, by simp [V.R]⟩

theorem guard_int (op : BinOp) (t : TypeId) (ox oy : Operand) (k k' : IntKind) (a b : Int) : (eqGuard op t ox oy (.int k a) (.int k' b)).run P w = .ok () w := by cases op <;> rfl
theorem guard_str (op : BinOp) (t : TypeId) (ox oy : Operand) (a b : ByteArray) : (eqGuard op t ox oy (.string a) (.string b)).run P w = .ok () w := by cases op <;> rfl
theorem guard_bool (op : BinOp) (t : TypeId) (ox oy : Operand) (a b : Bool) : (eqGuard op t ox oy (.bool a) (.bool b)).run P w = .ok () w := by cases op <;> rfl
theorem guard_slice (op : BinOp) (t : TypeId) (ox oy : Operand) (a : Option Addr) (l c : Nat) (b : Option Addr) (m d : Nat) : (eqGuard op t ox oy (.slice a l c) (.slice b m d)).run P w = .ok () w := by cases op <;> rfl

theorem bin_sound {op : BinOp} {t : TypeId} {ox oy : Operand} {x y v : V} {vx vy : Value} (h : evBin P op t x y = some v) (hx : V.R P I μ w x vx) (hy : V.R P I μ w y vy) :
    ∃ val, (do eqGuard op t ox oy vx vy; binOp op t vx vy : Sem Value).run P w = .ok val w ∧ V.R P I μ w v val := by
  unfold evBin at h
  split at h
  · simp only [V.R] at hx hy
    subst hx hy
    split at h
    · rename_i hk; subst hk
      obtain ⟨val, h1, h2⟩ := int_sound (P := P) (I := I) (μ := μ) (w := w) (t := t) h
      exact ⟨val, by rw [Sem.run_bind, guard_int]; exact h1, h2⟩
    · cases h
  · simp only [V.R] at hx hy
    subst hx hy
    obtain ⟨val, h1, h2⟩ := str_sound (P := P) (I := I) (μ := μ) (w := w) (t := t) h
    exact ⟨val, by rw [Sem.run_bind, guard_str]; exact h1, h2⟩
  · simp only [V.R] at hx hy
    subst hx hy
    split at h
    · rename_i hu
      cases h
      refine ⟨_, by rw [Sem.run_bind, guard_bool]; simp only [Result.andThen_ok, binOp]; simp [run_equal_bool w t _ _ hu]; rfl, by simp [V.R]⟩
    · rename_i hu
      cases h
      refine ⟨_, by rw [Sem.run_bind, guard_bool]; simp only [Result.andThen_ok, binOp]; simp [run_equal_bool w t _ _ hu]; rfl, by simp [V.R]⟩
    · cases h
  · simp only [V.R] at hx hy
    obtain ⟨ax, rfl, hx⟩ := hx
    obtain ⟨ay, rfl, hy⟩ := hy
    split at h
    · rename_i fs hu hst hgt
      cases hr : flatEqs P _ _ fs.toList with
      | none => rw [hr] at h; cases h
      | some r =>
        rw [hr] at h; cases h
        have hf : P.fieldsOf t = fs := by simp [Program.fieldsOf, hu]
        refine ⟨.bool r, ?_, by simp [V.R]⟩
        rw [Sem.run_bind, run_eqGuard_agg w .eql t ox oy ax ay hgt]
        simp only [Result.andThen_ok]
        rw [run_eql_struct, run_equalIn_struct w 9999 t ax ay (by rw [hf]; exact hu) hst, hf, flatEqs_sound hx hy hr]
        rfl
    · rename_i fs hu hst hgt
      cases hr : flatEqs P _ _ fs.toList with
      | none => rw [hr] at h; cases h
      | some r =>
        rw [hr] at h; cases h
        have hf : P.fieldsOf t = fs := by simp [Program.fieldsOf, hu]
        refine ⟨.bool (!r), ?_, by simp [V.R]⟩
        rw [Sem.run_bind, run_eqGuard_agg w .neq t ox oy ax ay hgt]
        simp only [Result.andThen_ok]
        rw [run_neq_struct, run_equalIn_struct w 9999 t ax ay (by rw [hf]; exact hu) hst, hf, flatEqs_sound hx hy hr]
        rfl
    · cases h
  · cases h

theorem un_sound {op : UnOp} {x v : V} {vx : Value} (h : evUn op x = some v) (hx : V.R P I μ w x vx) : ∃ val, (Op.unary op vx).run P w = .ok val w ∧ V.R P I μ w v val := by
  unfold evUn at h
  split at h
  case h_3 => cases h
  all_goals (split at h <;> cases h) <;> (simp only [V.R] at hx; subst hx)
  · exact ⟨_, by simp [Op.unary, Op.intArith]; rfl, by simp [V.R]⟩
  · exact ⟨_, by simp [Op.unary]; rfl, by simp [V.R]⟩

theorem bytes_sound : ∀ {cs : List V} {l : List UInt8} {vs : List Value}, bytesV cs = some l → V.RL P I μ w cs vs → vs = bv l
  | [], l, vs, h, hr => by cases h; simpa [V.RL, bv] using hr
  | c :: cs, l, vs, h, hr => by
    unfold bytesV at h
    split at h
    · rename_i e; cases e
    · rename_i n cs' e
      cases e
      split at h
      · rename_i hn
        cases hb : bytesV cs with
        | none => rw [hb] at h; cases h
        | some l' =>
          rw [hb] at h; cases h
          simp only [V.RL] at hr
          obtain ⟨u, us, rfl, h1, h2⟩ := hr
          simp only [V.R] at h1
          subst h1
          have := bytes_sound hb h2
          subst this
          have hm : n % 256 = n := by omega
          simp [bv, UInt8.toNat_ofNat']
          omega
      · cases h
    · cases h

theorem bytes_noO : ∀ {cs : List V} {l : List UInt8}, bytesV cs = some l → noOs cs = true
  | [], _, _ => rfl
  | c :: cs, l, h => by
    unfold bytesV at h
    split at h
    · rename_i e; cases e
    · rename_i n t e
      split at h
      · obtain ⟨l', h1, _⟩ := Option.map_eq_some_iff.1 h
        cases e
        have := bytes_noO h1
        unfold noOs at this ⊢
        rw [List.all_cons, this]; rfl
      · cases h
    · cases h

theorem conv_sound {s d : TypeId} {x : V} {vx : Value} (h : evConv P hp s d x = some out) (hx : V.R P I μ w x vx) (pre : Pre P I μ w hp out.acc out.hp.length) :
    ∃ val w' μ', (convert s d vx).run P w = .ok val w' ∧ V.R P I μ' w' out.v val ∧ Good P I I μ μ' w w' hp out.hp out.acc out.wr := by
  unfold evConv at h
  split at h
  · simp only [V.R] at hx
    subst hx
    split at h
    · rename_i hs hd
      cases h
      exact ⟨_, w, μ, by simp [convert, run_underlying hs, run_underlying hd, Conv.intToInt]; rfl, by simp [V.R], Good.same hp pre⟩
    · cases h
  · rename_i l
    simp only [V.R] at hx
    subst hx
    split at h
    · rename_i hs hd
      cases h
      exact ⟨_, w, μ, by simp [convert, run_underlying hs, run_underlying hd]; rfl, by simp [V.R], Good.same hp pre⟩
    · rename_i e hs hd
      split at h
      · rename_i i he hi
        split at h
        · rename_i hc
          cases h
          have hr := run_bytes_of_string (P := P) w s d e ⟨l.toArray⟩ hs hd he
          have hsz : (⟨l.toArray⟩ : ByteArray).size = l.length := rfl
          rw [hsz] at hr
          have hge := grownCap_ge w l.length 0 e
          have hrow : (bytesRow ⟨l.toArray⟩ (grownCap w l.length 0 e)).size = grownCap w l.length 0 e := by
            simp only [bytesRow, hsz]; simp; omega
          obtain ⟨hg, hsh⟩ := Good.newC (P := P) (I := I) (μ := μ) (w := w) (hp := hp) (acc := []) (blk := ([.sld (l.map fun b => V.int .u8 b.toNat)], e)) (cs := bytesRow ⟨l.toArray⟩ (grownCap w l.length 0 e))
            (fr := ((bytesRow ⟨l.toArray⟩ (grownCap w l.length 0 e)).size, (bytesRow ⟨l.toArray⟩ (grownCap w l.length 0 e)).size + 1)) (wd := w.drew) (.inr rfl) (by simpa using pre) (.inr (Nat.le_refl _)) (.sld (by simp [hrow]; exact hge) (by
              have e1 : (bytesRow ⟨l.toArray⟩ (grownCap w l.length 0 e)).toList.take (l.map fun b => V.int .u8 b.toNat).length = bv l := by
                simp [bytesRow, bv]
              rw [e1]
              clear hr hrow pre hc hge hsz e1
              induction l with
              | nil => simp [V.RL, bv]
              | cons b l ih => simp only [List.map_cons, V.RL, bv]; exact ⟨_, _, rfl, by simp [V.R], ih⟩))
          refine ⟨_, _, _, hr, ?_, hg⟩
          simp only [V.R]
          exact .inl ⟨_, grownCap w l.length 0 e, e, _, i, Mu.put_at _ _ _ _, rfl, hge, grownCap_le_maxLen w _ _ _ hc.1, by simp, hsh, hi, by rw [hc.2]; show 0 + _ * 1 ≤ (bytesRow _ _).size; rw [hrow]; omega⟩
        · cases h
      · cases h
    · cases h
  · rename_i b off n full
    simp only [V.R] at hx
    split at h
    · rename_i e hs hd
      split at h
      · rename_i blk he hb
        split at h
        · rename_i hl
          split at h
          · rename_i l hbv
            cases h
            rcases hx with ⟨g, cap, e', N, i, hg, rfl, _, _, _, hsh, _⟩ | ⟨rfl, rfl, a', rfl, _⟩
            · obtain ⟨cs, hrow, hsz, hrl⟩ := (pre.holds b (by simp) blk hb).rowS hg hsh
              have hr2 := hrl.part off n (bytes_noO hbv)
              have hbl := bytes_sound hbv hr2
              have hll : n = l.length := by have := hr2.length; rw [hbl, hl] at this; simpa [bv] using this.symm
              refine ⟨_, w, μ, run_string_of w s d e hs he hd _ n cap l hll (.inr ⟨_, rfl, hrow.lt, fun j u hu => ?_⟩), by simp [V.R], Good.same hp pre⟩
              rw [← hbl] at hu
              rw [Addr.add_mid]
              exact hrow.range off _ _ j u hu
            · simp only [List.drop_zero, List.take_zero, bytesV, Option.some.injEq] at hbv
              subst hbv
              exact ⟨_, w, μ, run_string_of w s d e hs he hd a' 0 0 [] rfl (.inl rfl), by simp [V.R], Good.same hp pre⟩
          · cases h
        · cases h
      · cases h
    · cases h
  · rename_i n full cs0
    simp only [V.R] at hx
    obtain ⟨a, cap, rfl, _, _, _, hmem⟩ := hx
    split at h
    · rename_i e hs hd
      split at h
      · rename_i he
        split at h
        · rename_i hl
          split at h
          · rename_i l hbv
            cases h
            have key : ∃ nv : List Value, V.RL P I μ w (cs0.take n) nv ∧ Lies w a nv := by
              rcases hmem with rfl | h0 | ⟨g, off, rfl, _, cells, e, fr, hg, hrl⟩
              · exact ⟨[], by simp [V.RL], .inl rfl⟩
              · exact ⟨[], by rw [h0]; simp [V.RL], .inl rfl⟩
              · refine ⟨((cells.toList.drop off).take cs0.length).take n, RL_up (hrl.take _), .inr ⟨_, rfl, (Array.getElem?_eq_some_iff.1 hg).1, fun j v hv => ?_⟩⟩
                rw [Addr.add_mid]
                rw [List.getElem?_take] at hv
                split at hv
                · rw [List.getElem?_take] at hv
                  split at hv
                  · rw [List.getElem?_drop] at hv
                    simpa [World.cell?, hg] using hv
                  · cases hv
                · cases hv
            obtain ⟨nv, h1, h2⟩ := key
            have hbl := bytes_sound hbv h1
            have hll : n = l.length := by have := h1.length; rw [hbl, hl] at this; simpa [bv] using this.symm
            exact ⟨_, w, μ, run_string_of w s d e hs he hd _ n cap l hll (by rw [← hbl]; exact h2), by simp [V.R], Good.same hp pre⟩
          · cases h
        · cases h
      · cases h
    · cases h
  · cases h

end
end Go.Proofs.YtfncaghjfgnnhaaGreatDoor

namespace Go.Proofs.YtfncaghjfgnnhaaGreatDoor
open Go.RowKit

section
variable {P : Program} {I : Nat → Prop} {μ μ' : Mu} {w w' : World} {hp : Hp} {out : Out}

def OptR (P : Program) (I : Nat → Prop) (μ : Mu) (w : World) : Option V → Option Value → Prop
  | none, v => v = none
  | some x, v => ∃ u, v = some u ∧ V.R P I μ w x u

theorem bound_sound {x : V} {vx : Value} {d lim lim' k : Nat} {code : BoundsCode} (h : evBound (some x) d lim = some k) (hx : V.R P I μ w x vx) (hl : lim ≤ lim') : (Instr.sliceBound vx lim' code).run P w = .ok k w ∧ k ≤ lim := by
  unfold evBound at h
  split at h
  · rename_i e; cases e
  · rename_i kk i e
    cases e
    split at h
    · rename_i hc
      cases h
      simp only [V.R] at hx
      subst hx
      exact ⟨run_sliceBound w kk i lim' code hc.1 (by omega), by omega⟩
    · cases h
  · cases h

theorem run_slice_gen {t e : TypeId} {s : Nat} (hu : P.underlying t = some (.slice e)) (hs : szOf P e = some s) (a : Option Addr) (len cap : Nat) (lo hi mx : Option Value) (l h m : Nat)
    (hb : (Instr.sliceBounds true len cap lo hi mx).run P w = .ok (l, h, m) w) : (Instr.sliceAt t (.slice a len cap) lo hi mx).run P w = .ok (.slice (if m = l then a else a.map (·.add (l * s))) (h - l) (m - l)) w := by
  simp only [Instr.sliceAt, Sem.run_bind, run_underlying hu, Result.andThen_ok, Instr.slice, hb, run_sizeOf hs, Sem.run_pure]

theorem bounds_none {isS : Bool} {n cap k h : Nat} {lo hi : Option V} {vl vh : Option Value} (h1 : evBound hi n n = some h) (h2 : evBound lo 0 h = some k) (hlo : OptR P I μ w lo vl) (hhi : OptR P I μ w hi vh) (hn : n ≤ cap) :
    (Instr.sliceBounds isS n cap vl vh none).run P w = .ok (k, h, cap) w ∧ k ≤ h ∧ h ≤ n := by
  have hh : (hi = none ∧ vh = none ∧ h = n) ∨ ∃ u, vh = some u ∧ h ≤ n ∧ ∀ code, (Instr.sliceBound u cap code).run P w = .ok h w := by
    cases hi with
    | none => simp only [OptR] at hhi; subst hhi; cases h1; exact .inl ⟨rfl, rfl, rfl⟩
    | some x =>
      simp only [OptR] at hhi
      obtain ⟨u, rfl, hu⟩ := hhi
      exact .inr ⟨u, rfl, (bound_sound (code := .sliceAcap) h1 hu hn).2, fun code => (bound_sound (code := code) h1 hu hn).1⟩
  have hk : (lo = none ∧ vl = none ∧ k = 0) ∨ ∃ u, vl = some u ∧ k ≤ h ∧ ∀ code, (Instr.sliceBound u h code).run P w = .ok k w := by
    cases lo with
    | none => simp only [OptR] at hlo; subst hlo; cases h2; exact .inl ⟨rfl, rfl, rfl⟩
    | some x =>
      simp only [OptR] at hlo
      obtain ⟨u, rfl, hu⟩ := hlo
      exact .inr ⟨u, rfl, (bound_sound (code := .sliceB) h2 hu (Nat.le_refl _)).2, fun code => (bound_sound (code := code) h2 hu (Nat.le_refl _)).1⟩
  rcases hh with ⟨_, rfl, rfl⟩ | ⟨u, rfl, hle, hc⟩ <;> rcases hk with ⟨_, rfl, rfl⟩ | ⟨v, rfl, hle', hd⟩
  · exact ⟨rfl, by omega, by omega⟩
  · exact ⟨by simp [Instr.sliceBounds, hd], by omega, by omega⟩
  · exact ⟨by simp [Instr.sliceBounds, hc], by omega, by omega⟩
  · exact ⟨by simp [Instr.sliceBounds, hc, hd], by omega, by omega⟩

theorem bounds_max {n cap k h m : Nat} {lo : Option V} {hi mx : V} {vl : Option Value} {vh vm : Value} (h0 : evBound (some mx) 0 n = some m) (h1 : evBound (some hi) 0 m = some h) (h2 : evBound lo 0 h = some k) (hlo : OptR P I μ w lo vl) (hhi : V.R P I μ w hi vh) (hmx : V.R P I μ w mx vm) (hn : n ≤ cap) :
    (Instr.sliceBounds true n cap vl (some vh) (some vm)).run P w = .ok (k, h, m) w ∧ k ≤ h ∧ h ≤ m ∧ m ≤ n := by
  obtain ⟨a1, a2⟩ := bound_sound (code := .slice3Acap) h0 hmx hn
  obtain ⟨b1, b2⟩ := bound_sound (code := .slice3B) h1 hhi (Nat.le_refl _)
  have hk : (lo = none ∧ vl = none ∧ k = 0) ∨ ∃ u, vl = some u ∧ k ≤ h ∧ ∀ code, (Instr.sliceBound u h code).run P w = .ok k w := by
    cases lo with
    | none => simp only [OptR] at hlo; subst hlo; cases h2; exact .inl ⟨rfl, rfl, rfl⟩
    | some x =>
      simp only [OptR] at hlo
      obtain ⟨u, rfl, hu⟩ := hlo
      exact .inr ⟨u, rfl, (bound_sound (code := .sliceB) h2 hu (Nat.le_refl _)).2, fun code => (bound_sound (code := code) h2 hu (Nat.le_refl _)).1⟩
  rcases hk with ⟨_, rfl, rfl⟩ | ⟨v, rfl, hle', hd⟩
  · exact ⟨by simp [Instr.sliceBounds, a1, b1], by omega, by omega, by omega⟩
  · exact ⟨by simp [Instr.sliceBounds, a1, b1, hd], by omega, by omega, by omega⟩

theorem memTake {g off n : Nat} {cs : List V} (h : cs = [] ∨ I g ∧ ∃ cells e fr, w.heap[g]? = some (.cells cells e fr) ∧ V.RL P I noMu w cs ((cells.toList.drop off).take cs.length)) :
    cs.take n = [] ∨ I g ∧ ∃ cells e fr, w.heap[g]? = some (.cells cells e fr) ∧ V.RL P I noMu w (cs.take n) ((cells.toList.drop off).take (cs.take n).length) := by
  rcases h with rfl | ⟨hi, cells, e, fr, hg, hr⟩
  · exact .inl (by simp)
  · refine .inr ⟨hi, cells, e, fr, hg, ?_⟩
    have := hr.take n
    rw [List.take_take] at this
    rw [List.length_take]
    exact this
theorem memDrop {g off n : Nat} {cs : List V} (h : cs = [] ∨ I g ∧ ∃ cells e fr, w.heap[g]? = some (.cells cells e fr) ∧ V.RL P I noMu w cs ((cells.toList.drop off).take cs.length)) :
    cs.drop n = [] ∨ I g ∧ ∃ cells e fr, w.heap[g]? = some (.cells cells e fr) ∧ V.RL P I noMu w (cs.drop n) ((cells.toList.drop (off + n)).take (cs.drop n).length) := by
  rcases h with rfl | ⟨hi, cells, e, fr, hg, hr⟩
  · exact .inl (by simp)
  · refine .inr ⟨hi, cells, e, fr, hg, ?_⟩
    have := hr.drop n
    rw [List.drop_take, List.drop_drop] at this
    rw [List.length_drop]
    exact this

theorem dslMem {a : Option Addr} {cs : List V} {k h m s : Nat} (hkh : k ≤ h) (hhm : h ≤ m)
    {n : Nat} (hn : h ≤ n) (hmem : cs = [] ∨ n = 0 ∨ ∃ g off, a = some ⟨g, off, none⟩ ∧ I g ∧ ∃ cells e fr, w.heap[g]? = some (.cells cells e fr) ∧ V.RL P I noMu w cs ((cells.toList.drop off).take cs.length)) :
    (cs.take (h * s)).drop (k * s) = [] ∨ h - k = 0 ∨ ∃ g off, (if m = k then a else a.map (·.add (k * s))) = some ⟨g, off, none⟩ ∧ I g ∧ ∃ cells e fr, w.heap[g]? = some (.cells cells e fr) ∧ V.RL P I noMu w ((cs.take (h * s)).drop (k * s)) ((cells.toList.drop off).take ((cs.take (h * s)).drop (k * s)).length) := by
  rcases hmem with rfl | rfl | ⟨g, off, rfl, hmem⟩
  · exact .inl (by simp)
  · exact .inl (by obtain rfl : h = 0 := by omega
                   simp)
  · by_cases hmk : m = k
    · obtain rfl : h = k := by omega
      exact .inl (List.drop_eq_nil_of_le (by simp; omega))
    · rw [if_neg hmk]
      rcases memDrop (n := k * s) (memTake (n := h * s) (.inr hmem)) with h0 | h0
      · exact .inl h0
      · exact .inr <| .inr ⟨g, off + k * s, by simp [Addr.add_mid], h0⟩

theorem dslAdr2 {a : Option Addr} {cap m k s : Nat} (hm : m ≤ cap) (h : a = none ∧ cap = 0 ∨ ∃ g off, a = some ⟨g, off, none⟩) :
    (if m = k then a else a.map (·.add (k * s))) = none ∧ m - k = 0 ∨ ∃ g off, (if m = k then a else a.map (·.add (k * s))) = some ⟨g, off, none⟩ := by
  rcases h with ⟨rfl, h0⟩ | ⟨g, off, rfl⟩
  · exact .inl ⟨by split <;> rfl, by omega⟩
  · right
    split
    · exact ⟨g, off, rfl⟩
    · exact ⟨g, off + k * s, by simp [Addr.add_mid]⟩
theorem dslAdr {a : Option Addr} {cap k s : Nat} (_ : k ≤ cap) (h : a = none ∧ cap = 0 ∨ ∃ g off, a = some ⟨g, off, none⟩) :
    (if cap = k then a else a.map (·.add (k * s))) = none ∧ cap - k = 0 ∨ ∃ g off, (if cap = k then a else a.map (·.add (k * s))) = some ⟨g, off, none⟩ := dslAdr2 (Nat.le_refl _) h

theorem slice_sound {t : TypeId} {x : V} {vx : Value} {lo hi mx : Option V} {vl vh vm : Option Value} (h : evSlice P hp t x lo hi mx = some out) (hx : V.R P I μ w x vx) (hlo : OptR P I μ w lo vl) (hhi : OptR P I μ w hi vh) (hmx : OptR P I μ w mx vm)
    (pre : Pre P I μ w hp out.acc out.hp.length) :
    out.hp = hp ∧ out.wr = [] ∧ (∀ b ∈ out.acc, b < hp.length) ∧ ∃ val, (Instr.sliceAt t vx vl vh vm).run P w = .ok val w ∧ V.R P I μ w out.v val := by
  unfold evSlice at h
  split at h
  · rename_i l
    simp only [V.R] at hx; simp only [OptR] at hmx
    subst hx hmx
    split at h
    case h_2 => cases h
    case h_1 hh hu hhb =>
    split at h
    case h_2 => cases h
    case h_1 k hkb =>
    cases h
    obtain ⟨hb, h1, h2⟩ := bounds_none (isS := false) (P := P) (w := w) (cap := l.length) hhb hkb hlo hhi (Nat.le_refl _)
    refine ⟨rfl, rfl, by simp, .string ((⟨l.toArray⟩ : ByteArray).extract k hh), ?_, ?_⟩
    · have hsz : (⟨l.toArray⟩ : ByteArray).size = l.length := rfl
      simp only [Instr.sliceAt, Sem.run_bind, run_underlying hu, Result.andThen_ok, Instr.slice, hsz, hb, Sem.run_pure, Option.isSome_none, Bool.false_eq_true, if_false]
    · simp only [V.R]
      congr 1
      apply ByteArray.ext
      simp [ByteArray.data_extract, List.extract_eq_take_drop, List.drop_take]
  · rename_i b off n full
    simp only [V.R] at hx; simp only [OptR] at hmx
    subst hmx
    split at h
    case h_2 => cases h
    case h_1 e hh blk hu hhb hblk =>
    have hbl : b < hp.length := (List.getElem?_eq_some_iff.1 hblk).1
    split at h
    case h_2 => cases h
    case h_1 k s hkb hs hel =>
    have hacc : b ∈ out.acc := by
      split at h
      · cases h; simp
      · split at h <;> (cases h; simp)
    rcases hx with ⟨g, cap, e', N, i, hg, rfl, hncap, hcm, hfull, hsh, hi', hN⟩ | ⟨rfl, rfl, a', rfl, ha'⟩
    case inr =>
      obtain ⟨hb, h1, h2⟩ := bounds_none (isS := true) (P := P) (w := w) (cap := 0) hhb hkb hlo hhi (Nat.le_refl _)
      obtain rfl : hh = 0 := by omega
      obtain rfl : k = 0 := by omega
      have hr := run_slice_gen (P := P) (w := w) hu hs a' 0 0 vl vh none 0 0 0 hb
      split at h
      · cases h
        refine ⟨rfl, rfl, by simpa using hbl, _, hr, ?_⟩
        simp only [V.R]
        exact .inr ⟨trivial, trivial, a', by simp, ha'⟩
      · split at h
        · omega
        · cases h
          refine ⟨rfl, rfl, by simpa using hbl, _, hr, ?_⟩
          simp only [V.R]
          exact ⟨a', 0, by simp, Nat.le_refl _, fun _ => rfl, ha'.imp (fun h => ⟨h, rfl⟩) id, .inl trivial⟩
    obtain ⟨cs, fr, _, hw, _⟩ := (pre.holds b hacc blk hblk).realS hg hsh
    have hshape := shape_of hw
    rw [hsh] at hshape
    cases hshape
    rw [eq_of_beq hel] at hi'
    have hsz : i.size = s := by unfold szOf at hs; rw [hi'] at hs; simpa using hs
    subst hsz
    obtain ⟨hb, h1, h2⟩ := bounds_none (isS := true) (P := P) (w := w) hhb hkb hlo hhi hncap
    have hr := run_slice_gen (P := P) (w := w) hu hs (some ⟨g, off, none⟩) n cap vl vh none k hh cap hb
    have hfull' : (full && hh == n) = true → cap = hh := by
      intro hf; simp at hf; have := hfull hf.1; omega
    split at h
    · cases h
      have hk0 : k = 0 := by simp only [evBound, Option.some.injEq] at hkb; exact hkb.symm
      subst hk0
      refine ⟨rfl, rfl, by simpa using hbl, _, hr, ?_⟩
      simp only [V.R]
      refine .inl ⟨g, cap, _, _, i, hg, ?_, by omega, hcm, hfull', hsh, by rw [eq_of_beq hel]; exact hi', hN⟩
      split <;> simp [Addr.add]
    · split at h
      · rename_i hkh
        cases h
        refine ⟨rfl, rfl, by simpa using hbl, _, hr, ?_⟩
        rw [if_neg (show ¬ cap = k by omega)]
        simp only [V.R]
        have hmul : k * i.size + (cap - k) * i.size = cap * i.size := by rw [← Nat.add_mul]; congr 1; omega
        exact .inl ⟨g, cap - k, _, _, i, hg, by simp [Addr.add_mid], by omega, by omega, fun hf => by have := hfull' hf; omega, hsh, by rw [eq_of_beq hel]; exact hi', by omega⟩
      · rename_i hkh
        cases h
        obtain rfl : k = hh := by omega
        refine ⟨rfl, rfl, by simpa using hbl, _, hr, ?_⟩
        simp only [V.R]
        refine ⟨some (if cap = k then ⟨g, off, none⟩ else (⟨g, off, none⟩ : Addr).add (k * i.size)), cap - k, ?_, by omega, fun hf => by have := hfull' hf; omega, .inr (by split; exact ⟨g, off, rfl⟩; exact ⟨g, off + k * i.size, by simp [Addr.add_mid]⟩), .inl trivial⟩
        split <;> simp
  · rename_i b off n full m
    simp only [V.R] at hx; simp only [OptR] at hmx
    obtain ⟨vm', rfl, hmx⟩ := hmx
    split at h
    case h_2 => cases h
    case h_1 e m hi0 blk hu hmb hblk =>
    have hbl : b < hp.length := (List.getElem?_eq_some_iff.1 hblk).1
    simp only [OptR] at hhi
    obtain ⟨vh', rfl, hhi⟩ := hhi
    split at h
    case h_2 => cases h
    case h_1 hh hhb =>
    split at h
    case h_2 => cases h
    case h_1 k s hkb hs hel =>
    have hacc : b ∈ out.acc := by
      split at h <;> (cases h; simp)
    rcases hx with ⟨g, cap, e', N, i, hg, rfl, hncap, hcm, hfull, hsh, hi', hN⟩ | ⟨rfl, rfl, a', rfl, ha'⟩
    case inr =>
      obtain ⟨hb, h1, h2, h3⟩ := bounds_max (P := P) (w := w) (cap := 0) hmb hhb hkb hlo hhi hmx (Nat.le_refl _)
      obtain rfl : m = 0 := by omega
      obtain rfl : hh = 0 := by omega
      obtain rfl : k = 0 := by omega
      have hr := run_slice_gen (P := P) (w := w) hu hs a' 0 0 vl (some vh') (some vm') 0 0 0 hb
      rw [if_pos rfl] at h
      cases h
      refine ⟨rfl, rfl, by simpa using hbl, _, hr, ?_⟩
      simp only [V.R]
      exact ⟨a', 0, by simp, Nat.le_refl _, fun _ => rfl, ha'.imp (fun h => ⟨h, rfl⟩) id, .inl trivial⟩
    obtain ⟨cs, fr, _, hw, _⟩ := (pre.holds b hacc blk hblk).realS hg hsh
    have hshape := shape_of hw
    rw [hsh] at hshape
    cases hshape
    rw [eq_of_beq hel] at hi'
    have hsz : i.size = s := by unfold szOf at hs; rw [hi'] at hs; simpa using hs
    subst hsz
    obtain ⟨hb, h1, h2, h3⟩ := bounds_max (P := P) (w := w) hmb hhb hkb hlo hhi hmx hncap
    have hr := run_slice_gen (P := P) (w := w) hu hs (some ⟨g, off, none⟩) n cap vl (some vh') (some vm') k hh m hb
    split at h
    · rename_i ek
      cases h
      subst ek
      refine ⟨rfl, rfl, by simpa using hbl, _, hr, ?_⟩
      simp only [V.R]
      refine ⟨some (if m = k then ⟨g, off, none⟩ else (⟨g, off, none⟩ : Addr).add (k * i.size)), m - k, ?_, by omega, fun hf => by have := eq_of_beq hf; omega, .inr (by split; exact ⟨g, off, rfl⟩; exact ⟨g, off + k * i.size, by simp [Addr.add_mid]⟩), .inl trivial⟩
      split <;> simp
    · rename_i ek
      cases h
      refine ⟨rfl, rfl, by simpa using hbl, _, hr, ?_⟩
      rw [if_neg (show ¬ m = k by omega)]
      simp only [V.R]
      have hmul : k * i.size + (m - k) * i.size = m * i.size := by rw [← Nat.add_mul]; congr 1; omega
      have hmul2 : m * i.size ≤ cap * i.size := Nat.mul_le_mul_right _ (by omega)
      exact .inl ⟨g, m - k, _, _, i, hg, by simp [Addr.add_mid], by omega, by omega, fun hf => by have := eq_of_beq hf; omega, hsh, by rw [eq_of_beq hel]; exact hi', by omega⟩
  · rename_i n full cs0
    simp only [V.R] at hx; simp only [OptR] at hmx
    obtain ⟨a, cap, rfl, hncap, hfull, hnone, hmem⟩ := hx
    subst hmx
    split at h
    case h_2 => cases h
    case h_1 e hh hu hhb =>
    split at h
    case h_2 => cases h
    case h_1 k s hkb hs =>
    obtain ⟨hb, h1, h2⟩ := bounds_none (isS := true) (P := P) (w := w) hhb hkb hlo hhi hncap
    have hr := run_slice_gen (P := P) (w := w) hu hs a n cap vl vh none k hh cap hb
    have hfull' : (full && hh == n) = true → cap = hh := by
      intro hf; simp at hf; have := hfull hf.1; omega
    cases h
    refine ⟨rfl, rfl, by simp, _, hr, ?_⟩
    simp only [V.R]
    refine ⟨_, cap - k, rfl, by omega, fun hf => by have := hfull' hf; omega, dslAdr (by omega) hnone, dslMem h1 (by omega) (by omega) hmem⟩
  · rename_i n full cs0 m
    simp only [V.R] at hx; simp only [OptR] at hmx
    obtain ⟨a, cap, rfl, hncap, hfull, hnone, hmem⟩ := hx
    obtain ⟨vm', rfl, hmx⟩ := hmx
    split at h
    case h_2 => cases h
    case h_1 e m hi0 hu hmb =>
    simp only [OptR] at hhi
    obtain ⟨vh', rfl, hhi⟩ := hhi
    split at h
    case h_2 => cases h
    case h_1 hh hhb =>
    split at h
    case h_2 => cases h
    case h_1 k s hkb hs =>
    obtain ⟨hb, h1, h2, h3⟩ := bounds_max (P := P) (w := w) hmb hhb hkb hlo hhi hmx hncap
    have hr := run_slice_gen (P := P) (w := w) hu hs a n cap vl (some vh') (some vm') k hh m hb
    cases h
    refine ⟨rfl, rfl, by simp, _, hr, ?_⟩
    simp only [V.R]
    refine ⟨_, m - k, rfl, by omega, fun hf => by have := eq_of_beq hf; omega, dslAdr2 (by omega) hnone, dslMem h1 h2 (by omega) hmem⟩
  · cases h

end
end Go.Proofs.YtfncaghjfgnnhaaGreatDoor

namespace Go.Proofs.YtfncaghjfgnnhaaGreatDoor
open Go.RowKit

section
variable {P : Program} {I : Nat → Prop} {μ μ' : Mu} {w w' : World} {hp : Hp} {out : Out}

theorem at_lt {b : Nat} {x : Option Blk} (h : hp[b]? = some x) : b < hp.length := (List.getElem?_eq_some_iff.1 h).1

theorem cons_lt {b : Nat} {bs : List Nat} (h : b < hp.length) (hs : ∀ c ∈ bs, c < hp.length) : ∀ c ∈ b :: bs, c < hp.length := by
  intro c hc
  rcases List.mem_cons.1 hc with rfl | hc
  · exact h
  · exact hs c hc

theorem load_tidy {t : TypeId} {x : V} (h : evLoad P hp t x = some out) : Tidy hp out.hp out.acc out.wr := by
  unfold evLoad at h
  split at h
  case h_3 => cases h
  case h_2 =>
    split at h
    case h_2 => cases h
    split at h
    · split at h
      · cases h; exact .same hp (by simp)
      · cases h
    · split at h
      · cases h; exact .same hp (by simp)
      · cases h
  split at h
  case h_2 => cases h
  rename_i hb _ _
  split at h
  · split at h
    · cases h; exact .same hp (by simpa using at_lt hb)
    · cases h
  · split at h
    · split at h
      · cases h; exact .same hp (by simpa using at_lt hb)
      · cases h
    · cases h
theorem store_tidy {t : TypeId} {x y : V} (h : evStore P hp t x y = some out) : Tidy hp out.hp out.acc out.wr := by
  unfold evStore at h
  split at h
  case h_2 => cases h
  split at h
  case h_2 => cases h
  rename_i hb _
  split at h
  · split at h
    · cases h
      exact ⟨by simp, fun c hc hn => by rw [List.getElem?_set_ne (fun e => hn (by simp [e]))], by simp, by simpa using at_lt hb, by intro c hc; obtain rfl := List.mem_singleton.1 hc; exact ⟨_, hb⟩⟩
    · cases h
  · cases h
theorem src_tidy {size : Nat} {x : V} {bs : List Nat} {m : Nat} {news : List V} (h : srcV hp size x = some (bs, m, news)) : ∀ b ∈ bs, b < hp.length := by
  unfold srcV at h
  split at h
  · split at h
    · rename_i hb
      split at h
      · cases h; simpa using at_lt hb
      · cases h
    · cases h
  · split at h
    · cases h; simp
    · cases h
  · cases h
theorem append_tidy {t t' : TypeId} {x y : V} (h : evAppend P hp t t' x y = some out) : Tidy hp out.hp out.acc out.wr := by
  unfold evAppend at h
  split at h
  case h_2 => cases h
  split at h
  case h_2 => cases h
  split at h
  case h_2 => cases h
  split at h
  case isFalse => cases h
  split at h
  case h_2 => cases h
  rename_i hsrc
  have hs := src_tidy hsrc
  split at h
  · split at h
    case h_2 => cases h
    rename_i hb
    have hbl := at_lt hb
    split at h
    case isFalse => cases h
    cases h
    refine ⟨by simp, fun c hc hn => ?_, by simp, cons_lt hbl hs, by intro c hc; obtain rfl := List.mem_singleton.1 hc; exact ⟨_, hb⟩⟩
    rw [List.getElem?_append_left (by simpa using hc), List.getElem?_set_ne (fun e => hn (by simp [e]))]
  · split at h
    · cases h; exact .same hp hs
    · split at h
      · cases h; exact .new hp _ hs
      · cases h
  · cases h
theorem conv_tidy {s d : TypeId} {x : V} (h : evConv P hp s d x = some out) : Tidy hp out.hp out.acc out.wr := by
  unfold evConv at h
  split at h
  · split at h
    · cases h; exact .same hp (by simp)
    · cases h
  · split at h
    · cases h; exact .same hp (by simp)
    · split at h
      · split at h
        · cases h; exact .new hp _ (by simp)
        · cases h
      · cases h
    · cases h
  · split at h
    · split at h
      · rename_i hb
        split at h
        · split at h
          · cases h; exact .same hp (by simpa using at_lt hb)
          · cases h
        · cases h
      · cases h
    · cases h
  · split at h
    · split at h
      · split at h
        · split at h
          · cases h; exact .same hp (by simp)
          · cases h
        · cases h
      · cases h
    · cases h
  · cases h
theorem slice_tidy {t : TypeId} {x : V} {lo hi mx : Option V} (h : evSlice P hp t x lo hi mx = some out) : Tidy hp out.hp out.acc out.wr := by
  unfold evSlice at h
  split at h
  · split at h
    · split at h
      · cases h; exact .same hp (by simp)
      · cases h
    · cases h
  · split at h
    · rename_i hb
      split at h
      · split at h
        · cases h; exact .same hp (by simpa using at_lt hb)
        · split at h <;> (cases h; exact .same hp (by simpa using at_lt hb))
      · cases h
    · cases h
  · split at h
    · rename_i hb
      split at h
      · split at h
        · split at h <;> (cases h; exact .same hp (by simpa using at_lt hb))
        · cases h
      · cases h
    · cases h
  · split at h
    · split at h
      · cases h; exact .same hp (by simp)
      · cases h
    · cases h
  · split at h
    · split at h
      · split at h
        · cases h; exact .same hp (by simp)
        · cases h
      · cases h
    · cases h
  · cases h

theorem plain_tidy {e : Operand → V} {op : Op} (h : evPlain P e hp op = some out) : Tidy hp out.hp out.acc out.wr := by
  unfold evPlain at h
  split at h
  · cases h; exact .same hp (by simp)
  · cases h; exact .same hp (by simp)
  · split at h
    · cases h; exact .same hp (by simp)
    · cases h
  · unfold evAlloc at h
    split at h
    · cases h; exact .new hp _ (by simp)
    · cases h
  · unfold evBox at h
    split at h
    · cases h; exact .new hp _ (by simp)
    · cases h
  · unfold evBuild at h
    split at h
    · split at h
      · split at h
        · cases h; exact .same hp (by simp)
        · cases h
      · cases h
    · cases h
  · unfold evBuildSlice at h
    split at h
    · split at h
      · split at h
        · split at h
          · split at h
            · cases h; exact .new hp _ (by simp)
            · cases h
          · cases h
        · cases h
      · cases h
    · cases h
  · exact load_tidy h
  · exact store_tidy h
  · split at h
    · cases h; exact .same hp (by simp)
    · cases h; exact .same hp (by simp)
    · cases h; exact .same hp (by simp)
    · cases h
  · obtain ⟨v, _, rfl⟩ := Option.map_eq_some_iff.1 h; exact .same hp (by simp)
  · obtain ⟨v, _, rfl⟩ := Option.map_eq_some_iff.1 h; exact .same hp (by simp)
  · exact conv_tidy h
  · split at h
    · cases h; exact .same hp (by simp)
    · cases h
  · unfold evMakeSlice at h
    split at h
    · split at h
      · split at h
        · split at h
          · split at h
            · cases h; exact .new hp _ (by simp)
            · cases h
          · cases h
        · cases h
      · cases h
    · cases h
  · exact slice_tidy h
  · split at h
    · split at h
      · cases h; exact .same hp (by simp)
      · cases h
    · split at h
      · cases h; exact .same hp (by simp)
      · cases h
    · split at h
      · cases h; exact .same hp (by simp)
      · cases h
    · cases h
  · split at h
    · obtain ⟨v, _, rfl⟩ := Option.map_eq_some_iff.1 h; exact .same hp (by simp)
    · cases h
  · split at h
    · split at h
      · split at h
        · cases h; exact .same hp (by simp)
        · cases h
      · cases h
    · split at h
      · split at h
        · cases h; exact .same hp (by simp)
        · cases h
      · cases h
    · cases h
  · obtain ⟨v, _, rfl⟩ := Option.map_eq_some_iff.1 h; exact .same hp (by simp)
  · split at h
    · obtain ⟨v, _, rfl⟩ := Option.map_eq_some_iff.1 h; exact .same hp (by simp)
    · cases h
  · split at h
    · exact append_tidy h
    · unfold evLen at h
      split at h
      case h_4 => cases h
      all_goals
        split at h
        · cases h; exact .same hp (by simp)
        · cases h
    · obtain ⟨v, _, rfl⟩ := Option.map_eq_some_iff.1 h; exact .same hp (by simp)
    · obtain ⟨v, _, rfl⟩ := Option.map_eq_some_iff.1 h; exact .same hp (by simp)
    · cases h
  · cases h

def DoesP (P : Program) (I : Nat → Prop) (μ : Mu) (w : World) (hp : Hp) (out : Out) (s : Sem Value) : Prop :=
  ∃ val w' μ', s.run P w = .ok val w' ∧ V.R P I μ' w' out.v val ∧ Good P I I μ μ' w w' hp out.hp out.acc out.wr

theorem DoesP.same {s : Sem Value} (h1 : out.hp = hp) (h2 : out.wr = []) (pre : Pre P I μ w hp out.acc out.hp.length) (h : ∃ val, s.run P w = .ok val w ∧ V.R P I μ w out.v val) : DoesP P I μ w hp out s := by
  obtain ⟨val, h3, h4⟩ := h
  refine ⟨val, w, μ, h3, h4, ?_⟩
  rw [h1, h2]
  rw [h1] at pre
  exact Good.same hp pre

theorem RL_map {e : Operand → V} {ρ : Operand → Value} : ∀ {l : List Operand}, (∀ x ∈ l, V.R P I μ w (e x) (ρ x)) → V.RL P I μ w (l.map e) (l.map ρ)
  | [], _ => by simp [V.RL]
  | x :: l, h => by simp only [List.map_cons, V.RL]; exact ⟨_, _, rfl, h x (by simp), RL_map fun y hy => h y (by simp [hy])⟩
theorem Parts_map {e : Operand → V} {ρ : Operand → Value} : ∀ {l : List (Nat × Operand)}, (∀ x ∈ l, V.R P I μ w (e x.2) (ρ x.2)) → Parts P I μ w (l.map fun p => (p.1, e p.2)) (l.map fun p => (p.1, ρ p.2))
  | [], _ => .nil
  | x :: l, h => .cons (h x (by simp)) (Parts_map fun y hy => h y (by simp [hy]))
theorem OptR_map {e : Operand → V} {ρ : Operand → Value} {o : Option Operand} (h : ∀ x, o = some x → V.R P I μ w (e x) (ρ x)) : OptR P I μ w (o.map e) (o.map ρ) := by
  cases o with
  | none => rfl
  | some x => exact ⟨_, rfl, h x rfl⟩

theorem part_sound {t : TypeId} {cs : List V} {off : Nat} {v : V} {vs : Array Value} (h : partV P t cs off = some v) (hr : V.RL P I μ w cs vs.toList) : ∃ val, (part t vs off).run P w = .ok val w ∧ V.R P I μ w v val := by
  unfold partV at h
  split at h
  case h_2 => cases h
  case h_1 d s hu hs =>
  split at h
  · rename_i hd
    cases h
    refine ⟨.agg (vs.extract off (off + s)), ?_, ?_⟩
    · simp only [part, Sem.run_bind, run_isAgg hu, Result.andThen_ok, hd, if_true, run_sizeOf hs, Sem.run_pure]
    · simp only [V.R]
      refine ⟨_, rfl, ?_⟩
      have := (hr.drop off).take s
      simpa [List.extract_eq_take_drop, List.take_drop] using this
  · rename_i hd
    obtain ⟨u, hu2, hru⟩ := hr.get h
    refine ⟨u, ?_, hru⟩
    rw [Array.getElem?_toList] at hu2
    simp only [part, Sem.run_bind, run_isAgg hu, Result.andThen_ok, hd, Bool.false_eq_true, if_false, hu2, Sem.run_pure]

theorem plain_sound {o : Oper} {e : Operand → V} {ρ : Operand → Value} (h : evPlain P e hp o.op = some out) (hops : ∀ x ∈ o.op.operands, V.R P I μ w (e x) (ρ x)) (pre : Pre P I μ w hp out.acc out.hp.length) :
    ∃ nx val w' μ', (execOp ρ o).run P w = .ok nx w' ∧ (nx = .value val ∨ nx = .skip ∧ val = undef) ∧ V.R P I μ' w' out.v val ∧ Good P I I μ μ' w w' hp out.hp out.acc out.wr := by
  have fin : ∀ s : Sem Value, execOp ρ o = (do pure (.value (← s)) : Sem Next) → DoesP P I μ w hp out s → ∃ nx val w' μ', (execOp ρ o).run P w = .ok nx w' ∧ (nx = .value val ∨ nx = .skip ∧ val = undef) ∧ V.R P I μ' w' out.v val ∧ Good P I I μ μ' w w' hp out.hp out.acc out.wr := by
    intro s hs ⟨val, w', μ', h1, h2, h3⟩
    exact ⟨.value val, val, w', μ', by rw [hs]; simp only [Sem.run_bind, h1, Result.andThen_ok, Sem.run_pure], .inl rfl, h2, h3⟩
  have fin2 : ∀ s : Sem Value, (execOp ρ o).run P w = (do pure (.value (← s)) : Sem Next).run P w → DoesP P I μ w hp out s → ∃ nx val w' μ', (execOp ρ o).run P w = .ok nx w' ∧ (nx = .value val ∨ nx = .skip ∧ val = undef) ∧ V.R P I μ' w' out.v val ∧ Good P I I μ μ' w w' hp out.hp out.acc out.wr := by
    intro s hs ⟨val, w', μ', h1, h2, h3⟩
    exact ⟨.value val, val, w', μ', by rw [hs]; simp only [Sem.run_bind, h1, Result.andThen_ok, Sem.run_pure], .inl rfl, h2, h3⟩
  unfold evPlain at h
  split at h <;> first | (rename_i hop; rw [hop] at hops) | skip
  · cases h
    exact ⟨.value (ρ _), ρ _, w, μ, by simp only [execOp, hop, Sem.run_pure], .inl rfl, hops _ (by simp [Op.operands]), Good.same hp pre⟩
  · cases h
    exact ⟨.value (ρ _), ρ _, w, μ, by simp only [execOp, hop, Sem.run_pure], .inl rfl, hops _ (by simp [Op.operands]), Good.same hp pre⟩
  · rename_i c a b
    split at h
    · rename_i t ht
      cases h
      have hc := hops c (by simp [Op.operands])
      rw [ht] at hc
      simp only [V.R] at hc
      refine ⟨.value (if t then ρ a else ρ b), _, w, μ, by simp only [execOp, hop, hc, asBool, Sem.run_bind, Sem.run_pure, Result.andThen_ok], .inl rfl, ?_, Good.same hp pre⟩
      cases t
      · exact hops b (by simp [Op.operands])
      · exact hops a (by simp [Op.operands])
    · cases h
  · exact fin _ (by simp only [execOp, hop]) (alloc_sound h pre)
  · exact fin _ (by simp only [execOp, hop]) (box_sound h (hops _ (by simp [Op.operands])) pre)
  · rename_i t ps
    obtain ⟨h1, h2, h3, h4⟩ := build_sound (vs := ps.map fun (i, x) => (i, ρ x)) h (by
      rw [Array.toList_map]
      exact Parts_map fun x hx => hops _ (by simp only [Op.operands, List.mem_toArray, List.mem_map]; exact ⟨x, hx, rfl⟩))
    exact fin _ (by simp only [execOp, hop]) (.same h1 h2 pre h4)
  · rename_i t n ps
    exact fin _ (by simp only [execOp, hop]) (buildSlice_sound (vs := ps.map fun (i, x) => (i, ρ x)) h (by
      rw [Array.toList_map]
      exact Parts_map fun x hx => hops _ (by simp only [Op.operands, List.mem_toArray, List.mem_map]; exact ⟨x, hx, rfl⟩)) pre)
  · obtain ⟨h1, h2, _, h4⟩ := load_sound h (hops _ (by simp [Op.operands])) pre
    exact fin _ (by simp only [execOp, hop]) (.same h1 h2 pre h4)
  · obtain ⟨w', μ', h1, h2, h3⟩ := store_sound h (hops _ (by simp [Op.operands])) (hops _ (by simp [Op.operands])) pre
    exact ⟨.skip, undef, w', μ', by simp only [execOp, hop, Sem.run_bind, h1, Result.andThen_ok, Sem.run_pure], .inr ⟨rfl, rfl⟩, by rw [h2]; simp [V.R], h3⟩
  · rename_i x
    split at h
    · rename_i b off hx
      cases h
      have hc := hops x (by simp [Op.operands])
      rw [hx] at hc
      have hc' := hc
      simp only [V.R] at hc'
      obtain ⟨g, _, hv⟩ := hc'
      refine ⟨.value (ρ x), _, w, μ, by simp only [execOp, hop]; rw [hv]; rfl, .inl rfl, hc, Good.same hp pre⟩
    · rename_i cs hx
      cases h
      have hc := hops x (by simp [Op.operands])
      rw [hx] at hc
      have hc' := hc
      simp only [V.R] at hc'
      obtain ⟨g, off, hv, _⟩ := hc'
      refine ⟨.value (ρ x), _, w, μ, by simp only [execOp, hop]; rw [hv]; rfl, .inl rfl, hc, Good.same hp pre⟩
    · rename_i b base rel hx
      cases h
      have hc := hops x (by simp [Op.operands])
      rw [hx] at hc
      have hc' := hc
      simp only [V.R] at hc'
      obtain ⟨g, _, hv⟩ := hc'
      refine ⟨.value (ρ x), _, w, μ, by simp only [execOp, hop]; rw [hv]; rfl, .inl rfl, hc, Good.same hp pre⟩
    · cases h
  · rename_i op t x y yt
    obtain ⟨v, hv, rfl⟩ := Option.map_eq_some_iff.1 h
    exact fin (do eqGuard op t x y (ρ x) (ρ y); binOp op t (ρ x) (ρ y)) (by simp only [execOp, hop]) (.same rfl rfl pre (bin_sound hv (hops _ (by simp [Op.operands])) (hops _ (by simp [Op.operands]))))
  · obtain ⟨v, hv, rfl⟩ := Option.map_eq_some_iff.1 h
    exact fin _ (by simp only [execOp, hop]) (.same rfl rfl pre (un_sound hv (hops _ (by simp [Op.operands]))))
  · exact fin _ (by simp only [execOp, hop]) (conv_sound h (hops _ (by simp [Op.operands])) pre)
  · rename_i f first cap
    split at h
    · rename_i hf
      cases h
      have hf' : first = #[] := by cases first; simp_all
      refine fin (Instr.makeFunc (.func f) (first.map ρ) (cap.map ρ)) (by simp only [execOp, hop]) (.same rfl rfl pre ⟨.func (.func f) (first.map ρ) (cap.map ρ), rfl, ?_⟩)
      simp only [V.R, hf', Array.map_empty]
      refine ⟨_, rfl, ?_⟩
      rw [Array.toList_map]
      exact RL_map fun x hx => hops x (by simp only [Op.operands]; exact Array.mem_append.2 (.inr (by simpa using hx)))
    · cases h
  · exact fin _ (by simp only [execOp, hop]) (makeSlice_sound h (hops _ (by simp [Op.operands])) (hops _ (by simp [Op.operands])) pre)
  · rename_i t x lo hi mx
    obtain ⟨h1, h2, _, h4⟩ := slice_sound h (hops _ (by simp [Op.operands])) (OptR_map (ρ := ρ) fun y hy => hops y (by simp [Op.operands, hy])) (OptR_map (ρ := ρ) fun y hy => hops y (by simp [Op.operands, hy])) (OptR_map (ρ := ρ) fun y hy => hops y (by simp [Op.operands, hy])) pre
    exact fin _ (by simp only [execOp, hop]) (.same h1 h2 pre h4)
  · rename_i t x f
    split at h
    case h_4 => cases h
    case h_3 b base rel fd hx hfd =>
      split at h
      case h_2 => cases h
      case h_1 s hs =>
      cases h
      have hc := hops x (by simp [Op.operands])
      rw [hx] at hc
      simp only [V.R] at hc
      obtain ⟨g, hg, hv⟩ := hc
      unfold fieldOf at hfd
      split at hfd
      case h_2 => cases hfd
      case h_1 fields hu =>
      refine fin (Instr.fieldAt t (ρ x) f) (by simp only [execOp, hop]) (.same rfl rfl pre ⟨.pointer (some ⟨g, base + (rel + fd.offset), none⟩), ?_, ?_⟩)
      · simp only [hv, Instr.fieldAt, Sem.run_bind, run_underlying hu, Result.andThen_ok, hfd, Instr.sureAddr, Sem.run_pure, fieldPlace, run_sizeOf hs]
        rw [if_neg (by omega)]
        simp [Addr.add_mid, Nat.add_assoc]
      · simp only [V.R]; exact ⟨g, hg, rfl⟩
    case h_2 cs fd hx hfd =>
      split at h
      case h_2 => cases h
      case h_1 s hs =>
      cases h
      have hc := hops x (by simp [Op.operands])
      rw [hx] at hc
      simp only [V.R] at hc
      obtain ⟨g, off, hv, hmem⟩ := hc
      unfold fieldOf at hfd
      split at hfd
      case h_2 => cases hfd
      case h_1 fields hu =>
      refine fin (Instr.fieldAt t (ρ x) f) (by simp only [execOp, hop]) (.same rfl rfl pre ⟨.pointer (some ⟨g, off + fd.offset, none⟩), ?_, ?_⟩)
      · simp only [hv, Instr.fieldAt, Sem.run_bind, run_underlying hu, Result.andThen_ok, hfd, Instr.sureAddr, Sem.run_pure, fieldPlace, run_sizeOf hs]
        rw [if_neg (by omega)]
        simp [Addr.add_mid]
      · simp only [V.R]; exact ⟨g, off + fd.offset, rfl, memDrop hmem⟩
    case h_1 b off fd hx hfd =>
    split at h
    case h_2 => cases h
    case h_1 s hs =>
    cases h
    have hc := hops x (by simp [Op.operands])
    rw [hx] at hc
    simp only [V.R] at hc
    obtain ⟨g, hg, hv⟩ := hc
    unfold fieldOf at hfd
    split at hfd
    case h_2 => cases hfd
    case h_1 fields hu =>
    refine fin (Instr.fieldAt t (ρ x) f) (by simp only [execOp, hop]) (.same rfl rfl pre ⟨.pointer (some ⟨g, off + fd.offset, none⟩), ?_, ?_⟩)
    · simp only [hv, Instr.fieldAt, Sem.run_bind, run_underlying hu, Result.andThen_ok, hfd, Instr.sureAddr, Sem.run_pure, fieldPlace, run_sizeOf hs]
      rw [if_neg (by omega)]
      simp [Addr.add_mid]
    · simp only [V.R]; exact ⟨g, hg, rfl⟩
  · rename_i t x f
    split at h
    case h_2 => cases h
    case h_1 cs fd hx hfd =>
    obtain ⟨v, hv, rfl⟩ := Option.map_eq_some_iff.1 h
    have hc := hops x (by simp [Op.operands])
    rw [hx] at hc
    simp only [V.R] at hc
    obtain ⟨vs, hvs, hrl⟩ := hc
    unfold fieldOf at hfd
    split at hfd
    case h_2 => cases hfd
    case h_1 fields hu =>
    obtain ⟨val, h1, h2⟩ := part_sound hv hrl
    refine fin (Instr.field t (ρ x) f) (by simp only [execOp, hop]) (.same rfl rfl pre ⟨val, ?_, h2⟩)
    simp only [hvs, Instr.field, Sem.run_bind, run_underlying hu, Result.andThen_ok, hfd, asAgg, Sem.run_pure, h1]
  · rename_i t x i
    split at h
    case h_3 => cases h
    case h_2 n full cs k ii el hx hi hu =>
      split at h
      case h_2 => cases h
      case h_1 s hs =>
      split at h
      case isFalse => cases h
      case isTrue hin =>
      cases h
      have hc := hops x (by simp [Op.operands])
      have hci := hops i (by simp [Op.operands])
      rw [hx] at hc
      rw [hi] at hci
      simp only [V.R] at hc hci
      obtain ⟨a, cap, hv, hnc, _, hadr, hmem⟩ := hc
      rcases hadr with ⟨_, h0⟩ | ⟨g, off, rfl⟩
      · omega
      have hmem : cs = [] ∨ I g ∧ ∃ cells e fr, w.heap[g]? = some (.cells cells e fr) ∧ V.RL P I noMu w cs ((cells.toList.drop off).take cs.length) := by
        rcases hmem with h | h0 | ⟨g', off', he, hm⟩
        · exact .inl h
        · omega
        · cases he; exact .inr hm
      refine fin (Instr.indexAt t (ρ x) (ρ i)) (by simp only [execOp, hop]) (.same rfl rfl pre ⟨.pointer (some ⟨g, off + ii.toNat * s, none⟩), ?_, ?_⟩)
      · simp only [hv, hci, Instr.indexAt, Sem.run_bind, asIntOf, run_underlying hu, Result.andThen_ok, Sem.run_pure, hin, and_self, if_true, run_sizeOf hs, Addr.add_mid]
      · simp only [V.R]; exact ⟨g, _, rfl, memDrop hmem⟩
    case h_1 b off n full k ii el hx hi hu =>
    split at h
    case h_2 => cases h
    case h_1 s hs =>
    split at h
    case isFalse => cases h
    case isTrue hin =>
    cases h
    have hc := hops x (by simp [Op.operands])
    have hci := hops i (by simp [Op.operands])
    rw [hx] at hc
    rw [hi] at hci
    simp only [V.R] at hc hci
    obtain ⟨g, cap, e', N, inf, hg, hv, _⟩ := hc.resolve_right (by rintro ⟨_, h0, _⟩; omega)
    refine fin (Instr.indexAt t (ρ x) (ρ i)) (by simp only [execOp, hop]) (.same rfl rfl pre ⟨.pointer (some ⟨g, off + ii.toNat * s, none⟩), ?_, ?_⟩)
    · simp only [hv, hci, Instr.indexAt, Sem.run_bind, asIntOf, run_underlying hu, Result.andThen_ok, Sem.run_pure, hin, and_self, if_true, run_sizeOf hs, Addr.add_mid]
    · simp only [V.R]; exact ⟨g, hg, rfl⟩
  · rename_i t x i
    obtain ⟨v, hv, rfl⟩ := Option.map_eq_some_iff.1 h
    have hc := hops x (by simp [Op.operands])
    have hci := hops i (by simp [Op.operands])
    unfold evIndex at hv
    split at hv
    case h_2 => cases hv
    case h_1 l k ii hx hi =>
    rw [hx] at hc
    rw [hi] at hci
    simp only [V.R] at hc hci
    split at hv
    case h_2 => cases hv
    case h_1 hu =>
    split at hv
    case isFalse => cases hv
    case isTrue h0 =>
    obtain ⟨b, hb, rfl⟩ := Option.map_eq_some_iff.1 hv
    obtain ⟨hlt, hbe⟩ := List.getElem?_eq_some_iff.1 hb
    refine fin (Instr.index t (ρ x) (ρ i)) (by simp only [execOp, hop]) (.same rfl rfl pre ⟨.int .u8 b.toNat, ?_, by simp [V.R]⟩)
    rw [hc, hci, run_index_string w t _ k ii hu]
    have hsz : (⟨l.toArray⟩ : ByteArray).size = l.length := rfl
    rw [dif_pos ⟨h0, by rw [hsz]; omega⟩]
    have : (⟨l.toArray⟩ : ByteArray)[ii.toNat]'(by rw [hsz]; omega) = b := by rw [← hbe]; rfl
    rw [this]
  · rename_i x i
    split at h
    case h_2 => cases h
    case h_1 vs hx =>
    obtain ⟨v, hv, rfl⟩ := Option.map_eq_some_iff.1 h
    have hc := hops x (by simp [Op.operands])
    rw [hx] at hc
    simp only [V.R] at hc
    obtain ⟨us, hus, hrl⟩ := hc
    obtain ⟨u, hu, hr⟩ := hrl.get hv
    refine fin (Instr.extract (ρ x) i) (by simp only [execOp, hop]) (.same rfl rfl pre ⟨u, ?_, hr⟩)
    rw [Array.getElem?_toList] at hu
    simp only [hus, Instr.extract, hu, Sem.run_pure]
  · rename_i c
    have hargs : ∀ x ∈ c.args, V.R P I μ w (e x) (ρ x) := fun x hx => hops x (by simp only [Op.operands, Call.operands]; exact Array.mem_append.2 (.inr hx))
    split at h
    · rename_i s x t t' hcal ha hat
      have ha' : c.args = #[s, x] := by cases hca : c.args; rw [hca] at ha; simp at ha; simp [ha]
      have hat' : c.argTypes = #[t, t'] := by cases hca : c.argTypes; rw [hca] at hat; simp at hat; simp [hat]
      rw [ha'] at hargs
      refine fin2 (Builtin.append_ #[t, t'] o.type #[ρ s, ρ x]) ?_ (append_sound h (hargs s (by simp)) (hargs x (by simp)) pre)
      simp only [execOp, hop, resolve, hcal, ha', hat', invoke, builtin, Sem.run_bind, Sem.run_pure, Result.andThen_ok, List.map_toArray, List.map_cons, List.map_nil]
    · rename_i x t hcal ha hat
      have ha' : c.args = #[x] := by cases hca : c.args; rw [hca] at ha; simp at ha; simp [ha]
      have hat' : c.argTypes = #[t] := by cases hca : c.argTypes; rw [hca] at hat; simp at hat; simp [hat]
      rw [ha'] at hargs
      obtain ⟨h1, h2, _, h4⟩ := len_sound (ty := o.type) h (hargs x (by simp))
      refine fin2 (Builtin.len_ #[t] o.type #[ρ x]) ?_ (.same h1 h2 pre h4)
      simp only [execOp, hop, resolve, hcal, ha', hat', invoke, builtin, Sem.run_bind, Sem.run_pure, Result.andThen_ok, List.map_toArray, List.map_cons, List.map_nil]
    · rename_i x y hcal ha
      have ha' : c.args = #[x, y] := by cases hca : c.args; rw [hca] at ha; simp at ha; simp [ha]
      rw [ha'] at hargs
      obtain ⟨v, hv, rfl⟩ := Option.map_eq_some_iff.1 h
      have h1 := hargs x (by simp)
      have h2 := hargs y (by simp)
      unfold evMin at hv
      split at hv
      case h_2 => cases hv
      rename_i k a k' b hx hy
      cases hv
      rw [hx] at h1
      rw [hy] at h2
      simp only [V.R] at h1 h2
      refine fin2 (Builtin.min_ c.argTypes o.type #[ρ x, ρ y]) ?_ (.same rfl rfl pre ⟨.int k (if b < a then b else a), ?_, by simp only [V.R]⟩)
      · simp only [execOp, hop, resolve, hcal, ha', invoke, builtin, Sem.run_bind, Sem.run_pure, Result.andThen_ok, List.map_toArray, List.map_cons, List.map_nil]
      · rw [h1, h2]; simp [Builtin.min_, Builtin.min2]
    · rename_i x y hcal ha
      have ha' : c.args = #[x, y] := by cases hca : c.args; rw [hca] at ha; simp at ha; simp [ha]
      rw [ha'] at hargs
      obtain ⟨v, hv, rfl⟩ := Option.map_eq_some_iff.1 h
      have h1 := hargs x (by simp)
      have h2 := hargs y (by simp)
      unfold evMax at hv
      split at hv
      case h_2 => cases hv
      rename_i k a k' b hx hy
      cases hv
      rw [hx] at h1
      rw [hy] at h2
      simp only [V.R] at h1 h2
      refine fin2 (Builtin.max_ c.argTypes o.type #[ρ x, ρ y]) ?_ (.same rfl rfl pre ⟨.int k (if b > a then b else a), ?_, by simp only [V.R]⟩)
      · simp only [execOp, hop, resolve, hcal, ha', invoke, builtin, Sem.run_bind, Sem.run_pure, Result.andThen_ok, List.map_toArray, List.map_cons, List.map_nil]
      · rw [h1, h2]; simp [Builtin.max_, Builtin.max2]
    · cases h
  · cases h

end
end Go.Proofs.YtfncaghjfgnnhaaGreatDoor

namespace Go.Proofs.YtfncaghjfgnnhaaGreatDoor
open Go.RowKit

def nilC : Operand → Bool
  | .const (.slice none 0 0) => true
  | _ => false
def isNilV : V → Option Bool
  | .sl _ _ (_ + 1) _ => some false
  | .dsl (_ + 1) _ _ => some false
  | .lit (.slice none 0 0) => some true
  | .lit (.slice (some _) _ _) => some false
  | _ => none
def evClear (P : Program) (hp : Hp) (t : TypeId) (x : V) : Option Out :=
  match P.underlying t with
  | some (.slice elem) => match x with
    | .dsl 0 _ _ => some ⟨.tup [], hp, [], []⟩
    | .sl _ _ 0 _ => some ⟨.tup [], hp, [], []⟩
    | .sl b off (n + 1) _ => match P.info? elem, hp[b]? with
      | some i, some (some blk) => match i.zero with
        | some z =>
          if blk.2 = elem ∧ 0 < i.size ∧ z.cells.size = i.size ∧ (zeros (z.cells.toList.map ofScalar) ((n + 1) * i.size)).all V.one = true ∧ off + (n + 1) * i.size ≤ (flat blk.1).length then
            match spliceV blk.1 off ((n + 1) * i.size) (zeros (z.cells.toList.map ofScalar) ((n + 1) * i.size)) with
            | some l => some ⟨.tup [], hp.set b (some (l, blk.2)), [b], [b]⟩
            | none => none
          else none
        | none => none
      | _, _ => none
    | _ => none
  | _ => none
def evApp0 (P : Program) (hp : Hp) (t t' : TypeId) (s x : V) : Option Out :=
  match P.underlying t, t == t' with
  | some (.slice elem), true => match P.info? elem, s, x with
    | some _, .sl b off n full, .lit (.slice _ 0 _) => some ⟨.sl b off n full, hp, [], []⟩
    | some _, .dsl n full cs, .lit (.slice _ 0 _) => some ⟨.dsl n full cs, hp, [], []⟩
    | _, _, _ => none
  | _, _ => none
def evCopy (P : Program) (hp : Hp) (t : TypeId) (s x : V) : Option Out :=
  match P.underlying t with
  | some (.slice elem) =>
    match P.info? elem, s with
    | some i, .sl b off n _ =>
      match hp[b]?, srcV hp i.size x with
      | some (some blk), some (bs, m, news) =>
        if 0 < m ∧ 0 < i.size ∧ m ≤ n ∧ off + m * i.size ≤ (flat blk.1).length then
          match spliceV blk.1 off (m * i.size) (flat news) with
          | some l => some ⟨.int .i64 m, hp.set b (some (l, blk.2)), b :: bs, [b]⟩
          | none => none
        else none
      | _, _ => none
    | _, _ => none
  | _ => none
def evMore (P : Program) (e : Operand → V) (hp : Hp) : Op → Option Out
  | .binOp op t x y _ => match nilC y with
    | true => match P.underlying t, isNilV (e x), op with
      | some (.slice _), some b, .eql => some ⟨.bool b, hp, [], []⟩
      | some (.slice _), some b, .neq => some ⟨.bool (!b), hp, [], []⟩
      | _, _, _ => none
    | false => match op, e x, e y with
      | .shr, .int k a, .int _ b => if 0 ≤ b then some ⟨.int k (a.fdiv (2 ^ min b.toNat k.bits)), hp, [], []⟩ else none
      | .shl, .int k a, .int _ b => if 0 ≤ b then some ⟨.int k (k.wrap (a * 2 ^ min b.toNat k.bits)), hp, [], []⟩ else none
      | _, _, _ => none
  | .call c => match c.callee, c.args.toList, c.argTypes.toList with
    | .builtin .append, [s, x], [t, t'] => evApp0 P hp t t' (e s) (e x)
    | .builtin .clear, [x], [t] => evClear P hp t (e x)
    | .builtin .copy, [s, x], [t, _] => evCopy P hp t (e s) (e x)
    | _, _, _ => none
  | .makeInterface t x => match P.underlying t with
    | some (.interface _) => none
    | some _ => some ⟨.box (.iface t) [e x], hp, [], []⟩
    | none => none
  | .makeFunc (.func f) first cap => some ⟨.box (.bound f first.size) ((first ++ cap).toList.map e), hp, [], []⟩
  | .indexAddr t x i => match P.underlying t, e x, e i with
    | some (.array n el), .ptr b off, .int _ i => match szOf P el with
      | some s => if 0 ≤ i ∧ i < n then some ⟨.ptr b (off + i.toNat * s), hp, [], []⟩ else none
      | none => none
    | _, _, _ => none
  | _ => none

section
variable {P : Program} {I : Nat → Prop} {μ : Mu} {w : World} {hp : Hp} {out : Out}

theorem copy_tidy {t : TypeId} {x y : V} (h : evCopy P hp t x y = some out) : Tidy hp out.hp out.acc out.wr := by
  unfold evCopy at h
  split at h
  case h_2 => cases h
  split at h
  case h_2 => cases h
  split at h
  case h_2 => cases h
  case h_1 i b off n full hi blk bs m news hb hsrc =>
  split at h
  · split at h
    · cases h
      exact ⟨by simp, fun c hc hn => by rw [List.getElem?_set_ne (fun e => hn (by simp [e]))], by simp, fun c hc => by
        rcases List.mem_cons.1 hc with rfl | hc
        · exact at_lt hb
        · exact src_tidy hsrc c hc, by intro c hc; obtain rfl := List.mem_singleton.1 hc; exact ⟨_, hb⟩⟩
    · cases h
  · cases h

theorem more_tidy {e : Operand → V} {op : Op} (h : evMore P e hp op = some out) : Tidy hp out.hp out.acc out.wr := by
  unfold evMore at h
  split at h
  · split at h
    · split at h
      · cases h; exact .same hp (by simp)
      · cases h; exact .same hp (by simp)
      · cases h
    · split at h
      · split at h
        · cases h; exact .same hp (by simp)
        · cases h
      · split at h
        · cases h; exact .same hp (by simp)
        · cases h
      · cases h
  · split at h
    · unfold evApp0 at h
      split at h
      · split at h
        · cases h; exact .same hp (by simp)
        · cases h; exact .same hp (by simp)
        · cases h
      · cases h
    · unfold evClear at h
      split at h
      case h_2 => cases h
      split at h
      · cases h; exact .same hp (by simp)
      · cases h; exact .same hp (by simp)
      · split at h
        · rename_i i blk hi hb
          split at h
          · split at h
            · split at h
              · cases h
                exact ⟨by simp, fun c hc hn => by rw [List.getElem?_set_ne (fun e => hn (by simp [e]))], by simp, by simpa using at_lt hb, by intro c hc; obtain rfl := List.mem_singleton.1 hc; exact ⟨_, hb⟩⟩
              · cases h
            · cases h
          · cases h
        · cases h
      · cases h
    · exact copy_tidy h
    · cases h
  · split at h
    · cases h
    · cases h; exact .same hp (by simp)
    · cases h
  · cases h; exact .same hp (by simp)
  · split at h
    · split at h
      · split at h
        · cases h; exact .same hp (by simp)
        · cases h
      · cases h
    · cases h
  · cases h

theorem run_equalIn_nil (w : World) (d : Nat) (t e : TypeId) (a : Option Addr) (l c : Nat) (h : P.underlying t = some (.slice e)) : (Op.equalIn (d + 1) t (.slice a l c) (.slice none 0 0)).run P w = .ok a.isNone w := by
  cases a <;> simp [Op.equalIn, run_underlying h]
theorem run_equal_nil (w : World) (t e : TypeId) (a : Option Addr) (l c : Nat) (h : P.underlying t = some (.slice e)) : (Op.equal t (.slice a l c) (.slice none 0 0)).run P w = .ok a.isNone w := run_equalIn_nil w 9999 t e a l c h

theorem nil_sound {t : TypeId} {ox oy : Operand} {x : V} {vx vy : Value} {b : Bool} {e : TypeId} {op : BinOp} (hu : P.underlying t = some (.slice e)) (hn : isNilV x = some b) (hx : V.R P I μ w x vx) (hy : vy = .slice none 0 0) (hop : op = .eql ∨ op = .neq) :
    (do eqGuard op t ox oy vx vy; binOp op t vx vy : Sem Value).run P w = .ok (.bool (if op = .eql then b else !b)) w := by
  subst hy
  have key : ∃ a l c, vx = .slice a l c ∧ b = a.isNone := by
    unfold isNilV at hn
    split at hn
    · cases hn
      simp only [V.R] at hx
      obtain ⟨g, cap, _, _, _, _, rfl, _⟩ := hx.resolve_right (by rintro ⟨_, h0, _⟩; omega)
      exact ⟨_, _, _, rfl, rfl⟩
    · cases hn
      simp only [V.R] at hx
      obtain ⟨a, cap, rfl, hle, _, ha, _⟩ := hx
      rcases ha with ⟨_, h0⟩ | ⟨g, off, rfl⟩
      · omega
      · exact ⟨_, _, _, rfl, rfl⟩
    · cases hn
      simp only [V.R] at hx
      exact ⟨_, _, _, hx, rfl⟩
    · cases hn
      simp only [V.R] at hx
      exact ⟨_, _, _, hx, rfl⟩
    · cases hn
  obtain ⟨a, l, c, rfl, rfl⟩ := key
  rw [Sem.run_bind, guard_slice]
  simp only [Result.andThen_ok]
  rcases hop with rfl | rfl
  · simp only [binOp]
    simp [run_equal_nil w t e a l c hu]
  · simp only [binOp]
    simp [run_equal_nil w t e a l c hu]

theorem clear_sound {t ty : TypeId} {x : V} {vx : Value} (h : evClear P hp t x = some out) (hx : V.R P I μ w x vx) (pre : Pre P I μ w hp out.acc out.hp.length) : DoesP P I μ w hp out (Builtin.clear_ #[t] ty #[vx]) := by
  unfold evClear at h
  split at h
  case h_2 => cases h
  case h_1 elem hu =>
  split at h
  · cases h
    simp only [V.R] at hx
    obtain ⟨a, cap, rfl, _⟩ := hx
    refine .same rfl rfl pre ⟨.tuple #[], ?_, by simp [V.R, V.RL]⟩
    cases a <;> simp [Builtin.clear_, run_underlying hu]
  · cases h
    simp only [V.R] at hx
    rcases hx with ⟨g, cap, _, _, _, _, rfl, _⟩ | ⟨_, _, a', rfl, _⟩
    · refine .same rfl rfl pre ⟨.tuple #[], ?_, by simp [V.R, V.RL]⟩
      simp [Builtin.clear_, run_underlying hu]
    · refine .same rfl rfl pre ⟨.tuple #[], ?_, by simp [V.R, V.RL]⟩
      cases a' <;> simp [Builtin.clear_, run_underlying hu]
  · rename_i b off n full
    split at h
    case h_2 => cases h
    case h_1 i blk hi hb =>
    split at h
    case h_2 => cases h
    case h_1 z hz =>
    split at h
    case isFalse => cases h
    case isTrue hc =>
    obtain ⟨hel, hpos, hzs, h1, hle⟩ := hc
    split at h
    case h_2 => cases h
    case h_1 l' hsp =>
    cases h
    simp only [V.R] at hx
    obtain ⟨g, cap, e, N, i', hg, rfl, _, _, _, hsh, _⟩ := hx.resolve_right (by rintro ⟨_, h0, _⟩; omega)
    obtain ⟨cs, fr, _, hw, hfr, ⟨hsz, hcr⟩, _⟩ := (pre.holds b (by simp) blk hb).realS hg hsh
    have hrow : Row w g blk.2 cs := ⟨fr, hw, hfr⟩
    have hzl : V.RL P I μ w (zeros (z.cells.toList.map ofScalar) ((n + 1) * i.size)) (Builtin.zeroCells z.cells (n + 1)).toList := by
      have := RL_zeros (P := P) (I := I) (μ := μ) (w := w) z.cells ((n + 1) * i.size)
      unfold Builtin.zeroCells
      rw [hzs]; rw [hzs] at this; exact this
    have hvl : (Builtin.zeroCells z.cells (n + 1)).toList.length = (n + 1) * i.size := by simp [Builtin.zeroCells, hzs]
    have hst := storeCells_row P g off blk.2 (Builtin.zeroCells z.cells (n + 1)).toList 0 cs w hrow (by omega) (ones hzl h1)
    simp only [Nat.add_zero] at hst
    obtain ⟨hl2, F', hF', hcr2⟩ := splice_sound hsp hcr hzl (by simp [zeros]) hle
    refine ⟨.tuple #[], w.setRow g (cs.toList.take off ++ (Builtin.zeroCells z.cells (n + 1)).toList ++ cs.toList.drop (off + (Builtin.zeroCells z.cells (n + 1)).toList.length)).toArray, μ.setFt b F', ?_, by simp [V.R, V.RL], ?_⟩
    · simp [Builtin.clear_, Sem.run_bind, run_underlying hu, zeroValue, typeInfo, hi, hz]
      rw [hst]
      simp
    · have e := take_splice cs.toList (Builtin.zeroCells z.cells (n + 1)).toList off (flat blk.1).length (by omega) (by simpa using hsz)
      have hvs : (Builtin.zeroCells z.cells (n + 1)).size = (n + 1) * i.size := by simpa using hvl
      refine Good.writeC (blk' := (l', blk.2)) (by simpa using pre) (by simp) hb hg hw rfl ?_ hfr hF' ?_
      · simp only [List.size_toArray, List.length_append, List.length_take, List.length_drop, Array.length_toList]; omega
      · refine ⟨?_, ?_⟩
        · show (flat l').length ≤ _
          rw [hl2]; simp only [List.size_toArray, List.length_append, List.length_take, List.length_drop, Array.length_toList]; omega
        · show CR P I μ w F' l' (List.take (flat l').length _)
          rw [hl2, e, hvl]
          exact hcr2
  · cases h

theorem copy_sound {t t' ty : TypeId} {x y : V} {vx vy : Value} (h : evCopy P hp t x y = some out) (hx : V.R P I μ w x vx) (hy : V.R P I μ w y vy) (pre : Pre P I μ w hp out.acc out.hp.length) : DoesP P I μ w hp out (Builtin.copy_ #[t, t'] ty #[vx, vy]) := by
  unfold evCopy at h
  split at h
  case h_2 => cases h
  case h_1 elem hu =>
  split at h
  case h_2 => cases h
  case h_1 i b off n full hi =>
  split at h
  case h_2 => cases h
  case h_1 blk bs m news hb hsrc =>
  split at h
  case isFalse => cases h
  case isTrue hc =>
  obtain ⟨hm, hpos, hmn, hle⟩ := hc
  split at h
  case h_2 => cases h
  case h_1 l' hsp =>
  cases h
  simp only [V.R] at hx
  obtain ⟨g, cap, e, N, i', hg, rfl, _, _, _, hsh, _⟩ := hx.resolve_right (by rintro ⟨_, h0, _⟩; omega)
  obtain ⟨a, c, nv, rfl, h1, h2, hone, h3, _, hno⟩ := src_sound hsrc hy fun b' hb' => pre.holds b' (by simp [hb'])
  obtain ⟨cs, fr, _, hw, hfr, ⟨hsz, hcr⟩, _⟩ := (pre.holds b (by simp) blk hb).realS hg hsh
  have h2r := (h2.toXL.toRL hno).2
  have hrow : Row w g blk.2 cs := ⟨fr, hw, hfr⟩
  have hnv := h2.length
  have hvl : nv.length = m * i.size := by rw [hnv, h1]
  have hmp : 0 < m * i.size := Nat.mul_pos hm hpos
  have hne : nv ≠ [] := by
    rintro rfl
    simp at hvl; omega
  obtain ⟨ad, rfl, hcells⟩ := lies_cells h3 hne
  have hf := run_firstCells_some (P := P) w i.size m ad m c nv hvl hcells
  have hst := storeCells_row P g off blk.2 nv 0 cs w hrow (by omega) hone
  simp only [Nat.add_zero] at hst
  obtain ⟨hl2, F', hF', hcr2⟩ := splice_sound hsp hcr h2r h1 hle
  refine ⟨.int .i64 m, w.setRow g (cs.toList.take off ++ nv ++ cs.toList.drop (off + nv.length)).toArray, μ.setFt b F', ?_, by simp [V.R], ?_⟩
  · have hmin : Nat.min m n = m := Nat.min_eq_left hmn
    simp [Builtin.copy_, Sem.run_bind, run_underlying hu, sizeOf, typeInfo, hi, Builtin.lenOf, hmin, hf, hst]
    rfl
  · have e := take_splice cs.toList nv off (flat blk.1).length (by omega) (by simpa using hsz)
    refine Good.writeC (blk' := (l', blk.2)) (by simpa using pre) (by simp) hb hg hw rfl ?_ hfr hF' ?_
    · simp only [List.size_toArray, List.length_append, List.length_take, List.length_drop, Array.length_toList]; omega
    · refine ⟨?_, ?_⟩
      · show (flat l').length ≤ _
        rw [hl2]; simp only [List.size_toArray, List.length_append, List.length_take, List.length_drop, Array.length_toList]; omega
      · show CR P I μ w F' l' (List.take (flat l').length _)
        rw [hl2, e, hvl]
        exact hcr2

theorem app0_sound {t t' ty : TypeId} {x y : V} {vx vy : Value} (h : evApp0 P hp t t' x y = some out) (hx : V.R P I μ w x vx) (hy : V.R P I μ w y vy) (pre : Pre P I μ w hp out.acc out.hp.length) : DoesP P I μ w hp out (Builtin.append_ #[t, t'] ty #[vx, vy]) := by
  unfold evApp0 at h
  split at h
  case h_2 => cases h
  case h_1 elem hu htt =>
  obtain rfl : t = t' := by simpa using htt
  split at h
  · rename_i i b off n full a c hi
    cases h
    have hx0 := hx
    simp only [V.R] at hx hy
    subst hy
    rcases hx with ⟨g, cap, e, N, i', hg, rfl, hle, _⟩ | ⟨_, rfl, a', rfl, _⟩
    · exact .same rfl rfl pre ⟨_, append_zero hu hi _ n cap hle a c, hx0⟩
    · exact .same rfl rfl pre ⟨_, append_zero hu hi a' 0 0 (Nat.le_refl _) a c, hx0⟩
  · rename_i i n full cs a c hi
    cases h
    have hx0 := hx
    simp only [V.R] at hx hy
    subst hy
    obtain ⟨b, cap, rfl, hle, _⟩ := hx
    exact .same rfl rfl pre ⟨_, append_zero hu hi _ n cap hle a c, hx0⟩
  · cases h

theorem more_sound {o : Oper} {e : Operand → V} {ρ : Operand → Value} (hρ : ∀ v, ρ (.const v) = v) (h : evMore P e hp o.op = some out) (hops : ∀ x ∈ o.op.operands, V.R P I μ w (e x) (ρ x)) (pre : Pre P I μ w hp out.acc out.hp.length) :
    ∃ val w' μ', (execOp ρ o).run P w = .ok (.value val) w' ∧ V.R P I μ' w' out.v val ∧ Good P I I μ μ' w w' hp out.hp out.acc out.wr := by
  have fin : ∀ s : Sem Value, (execOp ρ o).run P w = (do pure (.value (← s)) : Sem Next).run P w → DoesP P I μ w hp out s → ∃ val w' μ', (execOp ρ o).run P w = .ok (.value val) w' ∧ V.R P I μ' w' out.v val ∧ Good P I I μ μ' w w' hp out.hp out.acc out.wr := by
    intro s hs ⟨val, w', μ', h1, h2, h3⟩
    exact ⟨val, w', μ', by rw [hs]; simp only [Sem.run_bind, h1, Result.andThen_ok, Sem.run_pure], h2, h3⟩
  unfold evMore at h
  split at h <;> first | (rename_i hop; rw [hop] at hops) | skip
  · rename_i op t x y yt
    have hx := hops x (by simp [Op.operands])
    split at h
    · rename_i hn
      have hy : ρ y = .slice none 0 0 := by
        unfold nilC at hn
        split at hn
        · exact hρ _
        · cases hn
      split at h
      · rename_i e b hu hv
        cases h
        refine fin (do eqGuard .eql t x y (ρ x) (ρ y); binOp .eql t (ρ x) (ρ y)) (by simp only [execOp, hop]) (.same rfl rfl pre ⟨_, nil_sound hu hv hx hy (.inl rfl), by simp [V.R]⟩)
      · rename_i e b hu hv
        cases h
        refine fin (do eqGuard .neq t x y (ρ x) (ρ y); binOp .neq t (ρ x) (ρ y)) (by simp only [execOp, hop]) (.same rfl rfl pre ⟨_, nil_sound hu hv hx hy (.inr rfl), by simp [V.R]⟩)
      · cases h
    · have hy := hops y (by simp [Op.operands])
      split at h
      · rename_i k a k' b hex hey
        split at h
        · rename_i hb
          cases h
          rw [hex] at hx
          rw [hey] at hy
          simp only [V.R] at hx hy
          refine fin (do eqGuard .shr t x y (ρ x) (ρ y); binOp .shr t (ρ x) (ρ y)) (by simp only [execOp, hop]) (.same rfl rfl pre ⟨.int k (a.fdiv (2 ^ min b.toNat k.bits)), ?_, by simp [V.R]⟩)
          rw [hx, hy, Sem.run_bind, guard_int]
          simp only [Result.andThen_ok, binOp, Op.shift]
          rw [if_neg (by omega)]
          rfl
        · cases h
      · rename_i k a k' b hex hey
        split at h
        · rename_i hb
          cases h
          rw [hex] at hx
          rw [hey] at hy
          simp only [V.R] at hx hy
          refine fin (do eqGuard .shl t x y (ρ x) (ρ y); binOp .shl t (ρ x) (ρ y)) (by simp only [execOp, hop]) (.same rfl rfl pre ⟨.int k (k.wrap (a * 2 ^ min b.toNat k.bits)), ?_, by simp [V.R]⟩)
          rw [hx, hy, Sem.run_bind, guard_int]
          simp only [Result.andThen_ok, binOp, Op.shift]
          rw [if_neg (by omega)]
          rfl
        · cases h
      · cases h
  · rename_i c
    have hargs : ∀ x ∈ c.args, V.R P I μ w (e x) (ρ x) := fun x hx => hops x (by simp only [Op.operands, Call.operands]; exact Array.mem_append.2 (.inr hx))
    split at h
    · rename_i s x t t' hcal ha hat
      have ha' : c.args = #[s, x] := by cases hca : c.args; rw [hca] at ha; simp at ha; simp [ha]
      have hat' : c.argTypes = #[t, t'] := by cases hca : c.argTypes; rw [hca] at hat; simp at hat; simp [hat]
      rw [ha'] at hargs
      refine fin (Builtin.append_ #[t, t'] o.type #[ρ s, ρ x]) ?_ (app0_sound h (hargs s (by simp)) (hargs x (by simp)) pre)
      simp only [execOp, hop, resolve, hcal, ha', hat', invoke, builtin, Sem.run_bind, Sem.run_pure, Result.andThen_ok, List.map_toArray, List.map_cons, List.map_nil]
    · rename_i x t hcal ha hat
      have ha' : c.args = #[x] := by cases hca : c.args; rw [hca] at ha; simp at ha; simp [ha]
      have hat' : c.argTypes = #[t] := by cases hca : c.argTypes; rw [hca] at hat; simp at hat; simp [hat]
      rw [ha'] at hargs
      refine fin (Builtin.clear_ #[t] o.type #[ρ x]) ?_ (clear_sound h (hargs x (by simp)) pre)
      simp only [execOp, hop, resolve, hcal, ha', hat', invoke, builtin, Sem.run_bind, Sem.run_pure, Result.andThen_ok, List.map_toArray, List.map_cons, List.map_nil]
    · rename_i s x t t' hcal ha hat
      have ha' : c.args = #[s, x] := by cases hca : c.args; rw [hca] at ha; simp at ha; simp [ha]
      have hat' : c.argTypes = #[t, t'] := by cases hca : c.argTypes; rw [hca] at hat; simp at hat; simp [hat]
      rw [ha'] at hargs
      refine fin (Builtin.copy_ #[t, t'] o.type #[ρ s, ρ x]) ?_ (copy_sound h (hargs s (by simp)) (hargs x (by simp)) pre)
      simp only [execOp, hop, resolve, hcal, ha', hat', invoke, builtin, Sem.run_bind, Sem.run_pure, Result.andThen_ok, List.map_toArray, List.map_cons, List.map_nil]
    · cases h
  · rename_i t x
    have hx := hops x (by simp [Op.operands])
    split at h
    · cases h
    · rename_i d hni hu
      cases h
      refine fin (Instr.makeInterface t (ρ x)) (by simp only [execOp, hop]) (.same rfl rfl pre ⟨.iface t (ρ x), ?_, ?_⟩)
      · simp only [Instr.makeInterface, Sem.run_bind, run_underlying hu, Result.andThen_ok]
        rfl
      · simp only [V.R, V.RL]
        exact ⟨#[ρ x], by simp [BK.mk], ρ x, [], rfl, hx, rfl⟩
    · cases h
  · rename_i f first cap
    cases h
    refine fin (Instr.makeFunc (.func f) (first.map ρ) (cap.map ρ)) (by simp only [execOp, hop]) (.same rfl rfl pre ⟨.func (.func f) (first.map ρ) (cap.map ρ), rfl, ?_⟩)
    simp only [V.R]
    refine ⟨(first ++ cap).map ρ, ?_, ?_⟩
    · have e1 : ((first ++ cap).map ρ).extract 0 first.size = first.map ρ := by
        apply Array.ext'
        simp only [Array.toList_extract, List.extract_eq_take_drop, Array.toList_map, Array.toList_append, List.map_append, List.drop_zero, Nat.sub_zero]
        rw [List.take_append_of_le_length (by simp), List.take_of_length_le (by simp)]
      have e2 : ((first ++ cap).map ρ).extract first.size ((first ++ cap).map ρ).size = cap.map ρ := by
        apply Array.ext'
        simp only [Array.toList_extract, List.extract_eq_take_drop, Array.toList_map, Array.toList_append, List.map_append, Array.size_map, Array.size_append]
        rw [List.drop_append_of_le_length (by simp), List.drop_of_length_le (by simp), List.nil_append, List.take_of_length_le (by simp)]
      show Value.func _ _ _ = Value.func _ _ _
      rw [e1, e2]
    · rw [Array.toList_map]
      exact RL_map fun x hx => hops x (by simp only [Op.operands]; simpa using hx)
  · rename_i t x i
    have hx := hops x (by simp [Op.operands])
    have hi := hops i (by simp [Op.operands])
    split at h
    · rename_i n el b off kk k hu hex hei
      split at h
      · rename_i sz hs
        split at h
        · rename_i hin
          cases h
          rw [hex] at hx
          rw [hei] at hi
          simp only [V.R] at hx hi
          obtain ⟨g, hg, hx⟩ := hx
          refine fin (Instr.indexAt t (ρ x) (ρ i)) (by simp only [execOp, hop]) (.same rfl rfl pre ⟨.pointer (some ⟨g, off + k.toNat * sz, none⟩), ?_, ?_⟩)
          · rw [hx, hi]
            simp [Instr.indexAt, asIntOf, run_underlying hu, Instr.sureAddr, run_sizeOf hs, hin, Addr.add_mid]
          · simp only [V.R]; exact ⟨g, hg, rfl⟩
        · cases h
      · cases h
    · cases h
  · cases h

end
end Go.Proofs.YtfncaghjfgnnhaaGreatDoor

namespace Go.Proofs.YtfncaghjfgnnhaaGreatDoor
open Go.RowKit

def pos : List Nat → Nat → Option Nat
  | [], _ => none
  | x :: t, b => if x = b then some 0 else (pos t b).map (· + 1)

mutual
def V.ren (ρ : Nat → Option Nat) : V → V
  | .ptr b off => match ρ b with
    | some b' => .ptr b' off
    | none => .junk
  | .sl b off n f => match ρ b with
    | some b' => .sl b' off n f
    | none => .junk
  | .agg cs => .agg (V.renL ρ cs)
  | .tup cs => .tup (V.renL ρ cs)
  | .fn f cs => .fn f (V.renL ρ cs)
  | .box f cs => .box f (V.renL ρ cs)
  | .eptr b base rel => match ρ b with
    | some b' => .eptr b' base rel
    | none => .junk
  | .osl T n o cs => .osl T n o cs
  | .int k n => .int k n
  | .bool b => .bool b
  | .str s => .str s
  | .nilp => .nilp
  | .dsl n f cs => .dsl n f cs
  | .dptr cs => .dptr cs
  | .sld cs => .sld cs
  | .slo cs => .slo cs
  | .nilf => .nilf
  | .lit v => .lit v
  | .junk => .junk
def V.renL (ρ : Nat → Option Nat) : List V → List V
  | [] => []
  | c :: cs => V.ren ρ c :: V.renL ρ cs
end
def renB (ρ : Nat → Option Nat) (blk : Option Blk) : Option Blk := blk.map fun x => (V.renL ρ x.1, x.2)

def reach (hp : Hp) : Nat → List Nat → List Nat → List Nat
  | 0, _, seen => seen
  | _ + 1, [], seen => seen
  | n + 1, b :: t, seen =>
    if seen.contains b then reach hp n t seen else
    match hp[b]? with
    | some (some blk) => reach hp n (t ++ V.refsL blk.1) (seen ++ [b])
    | _ => reach hp n t seen

structure Ret where
  v : V
  hp : Hp
  wr : List Nat

abbrev CallF := FuncId → List V → Hp → Option Ret

def backTo (ids : List Nat) (top : Nat) (j : Nat) : Option Nat := if j < ids.length then ids[j]? else some (top + (j - ids.length))

def evCall (callF : CallF) (hp : Hp) (f : FuncId) (vs : List V) : Option Out :=
  let ids := reach hp 100000 (V.refsL vs) []
  match callF f (V.renL (pos ids) vs) (ids.map fun b => renB (pos ids) (hp.getD b none)) with
  | some r =>
    let back := backTo ids hp.length
    let wr := r.wr.filterMap fun j => ids[j]?
    some ⟨V.ren back r.v, (hp.zipIdx.map fun x => if wr.contains x.2 then renB back (((pos ids x.2).bind fun j => r.hp[j]?).getD none) else x.1) ++ (r.hp.drop ids.length).map (renB back), ids, wr⟩
  | none => none

def MethodIs (P : Program) (t : TypeId) (name : String) (f : FuncId) : Prop := ∀ (v : Value) (args : Array Value) (w : World), (callMethod (.iface t v) name args).run P w = .ok (.enter f (#[v] ++ args)) w
open Classical in
noncomputable def mtab (P : Program) (t : TypeId) (name : String) : Option FuncId := if h : ∃ f, MethodIs P t name f then some h.choose else none
theorem mtab_ok {P : Program} {t : TypeId} {name : String} {f : FuncId} (h : mtab P t name = some f) : MethodIs P t name f := by
  unfold mtab at h
  split at h
  · rename_i hx; cases h; exact hx.choose_spec
  · cases h
theorem mtab_eq {P : Program} {t : TypeId} {name : String} {f : FuncId} (h : MethodIs P t name f) : mtab P t name = some f := by
  have hx : ∃ f, MethodIs P t name f := ⟨f, h⟩
  have h2 := hx.choose_spec
  unfold mtab
  rw [dif_pos hx]
  have a := h .nilFunc #[] default
  have b := h2 .nilFunc #[] default
  rw [a] at b
  injection b with b1 b2
  injection b1 with b3 b4
  rw [← b3]
noncomputable def evOp (P : Program) (callF : CallF) (e : Operand → V) (hp : Hp) (o : Op) : Option Out :=
  match o with
  | .call { callee := .value f, args := args, argTypes := ts } =>
    match e f with
    | .fn g cap => evCall callF hp g (args.toList.map e ++ cap)
    | _ => none
  | .call { callee := .invoke x name, args := args, argTypes := _ } =>
    match e x with
    | .box (.iface t) [v] => match mtab P t name with
      | some f => evCall callF hp f (v :: args.toList.map e)
      | none => none
    | _ => none
  | o => match evPlain P e hp o with
    | some out => some out
    | none => evMore P e hp o

inductive Tr where
  | leaf
  | node (v : V) (l r : Tr)
def Tr.get : Tr → Nat → V
  | .leaf, _ => .junk
  | .node v l r, i => match Nat.beq i 0 with
    | true => v
    | false => match Nat.beq (i % 2) 1 with
      | true => l.get (i / 2)
      | false => r.get (i / 2 - 1)
def Tr.set : Tr → Nat → V → Tr
  | .leaf, _, _ => .leaf
  | .node v l r, i, x => match Nat.beq i 0 with
    | true => .node x l r
    | false => match Nat.beq (i % 2) 1 with
      | true => .node v (l.set (i / 2) x) r
      | false => .node v l (r.set (i / 2 - 1) x)
def Tr.setK {β : Type _} : Tr → Nat → V → (Tr → β) → β
  | .leaf, _, _, k => k .leaf
  | .node v l r, i, x, k => match Nat.beq i 0 with
    | true => k (.node x l r)
    | false => match Nat.beq (i % 2) 1 with
      | true => l.setK (i / 2) x fun t => k (.node v t r)
      | false => r.setK (i / 2 - 1) x fun t => k (.node v l t)
theorem Tr.setK_eq {β : Type _} : ∀ (t : Tr) (i : Nat) (x : V) (k : Tr → β), t.setK i x k = k (t.set i x)
  | .leaf, _, _, _ => rfl
  | .node v l r, i, x, k => by
    unfold Tr.setK Tr.set
    cases Nat.beq i 0
    · cases Nat.beq (i % 2) 1
      · simp only [Tr.setK_eq r]
      · simp only [Tr.setK_eq l]
    · rfl
theorem Tr.get_ne : ∀ (t : Tr) (i j : Nat) (x : V), i ≠ j → (t.set i x).get j = t.get j
  | .leaf, _, _, _, _ => rfl
  | .node v l r, i, j, x, h => by
    have e : ∀ n m : Nat, Nat.beq n m = decide (n = m) := fun n m => by rw [Bool.eq_iff_iff]; simp
    unfold Tr.set
    by_cases hi : i = 0
    · have hj : j ≠ 0 := by omega
      simp [e, hi, Tr.get, hj]
    · by_cases hi2 : i % 2 = 1
      · simp only [e, hi, hi2, decide_true, decide_false]
        unfold Tr.get
        by_cases hj : j = 0
        · simp [hj, e]
        · by_cases hj2 : j % 2 = 1
          · simp only [e, hj, hj2, decide_true, decide_false]
            exact Tr.get_ne l _ _ x (by omega)
          · simp [e, hj, hj2]
      · simp only [e, hi, hi2, decide_false]
        unfold Tr.get
        by_cases hj : j = 0
        · simp [hj, e]
        · by_cases hj2 : j % 2 = 1
          · simp [e, hj, hj2]
          · simp only [e, hj, hj2, decide_false]
            exact Tr.get_ne r _ _ x (by omega)
theorem Tr.get_eq : ∀ (t : Tr) (i : Nat) (x : V), (t.set i x).get i = x ∨ (t.set i x).get i = .junk
  | .leaf, _, _ => .inr rfl
  | .node v l r, i, x => by
    unfold Tr.set
    cases h0 : Nat.beq i 0
    · cases h1 : Nat.beq (i % 2) 1
      · simp only [Tr.get, h0, h1]; exact Tr.get_eq r _ x
      · simp only [Tr.get, h0, h1]; exact Tr.get_eq l _ x
    · left; simp only [Tr.get, h0]
structure Tm where
  n : Nat
  t : Tr
def Tm.get (m : Tm) (i : Nat) : V := match Nat.blt i m.n with
  | true => m.t.get i
  | false => .junk
def Tm.put (m : Tm) (i : Nat) (x : V) : Tm := ⟨m.n, m.t.set i x⟩
theorem Tm.get_ne (m : Tm) {i j : Nat} (x : V) (h : i ≠ j) : (m.put i x).get j = m.get j := by
  unfold Tm.get Tm.put
  simp only [Tr.get_ne m.t i j x h]
theorem Tm.get_eq (m : Tm) (i : Nat) (x : V) : (m.put i x).get i = x ∧ i < m.n ∨ (m.put i x).get i = .junk := by
  unfold Tm.get Tm.put
  cases h : Nat.blt i m.n
  · exact .inr rfl
  · have : i < m.n := by simpa using h
    rcases Tr.get_eq m.t i x with h | h
    · exact .inl ⟨h, this⟩
    · exact .inr h
def Tr.mk0 : Nat → Tr
  | 0 => .leaf
  | k + 1 => .node .junk (Tr.mk0 k) (Tr.mk0 k)
theorem Tr.mk0_get : ∀ (k i : Nat), (Tr.mk0 k).get i = .junk
  | 0, _ => rfl
  | k + 1, i => by
    unfold Tr.mk0 Tr.get
    cases Nat.beq i 0
    · cases Nat.beq (i % 2) 1
      · exact Tr.mk0_get k _
      · exact Tr.mk0_get k _
    · rfl
def Tm.fill : List V → Nat → Tm → Tm
  | [], _, m => m
  | v :: vs, i, m => Tm.fill vs (i + 1) (m.put i v)
theorem Tm.fill_get : ∀ (vs : List V) (i : Nat) (m : Tm) (t : Nat), ((Tm.fill vs i m).get t = m.get t) ∨ ((Tm.fill vs i m).get t = .junk) ∨ (∃ k, t = i + k ∧ vs[k]? = some ((Tm.fill vs i m).get t))
  | [], _, _, _ => .inl rfl
  | v :: vs, i, m, t => by
    unfold Tm.fill
    rcases Tm.fill_get vs (i + 1) (m.put i v) t with h | h | ⟨k, hk, h⟩
    · by_cases e : i = t
      · subst e
        rcases m.get_eq i v with h2 | h2
        · right; right; exact ⟨0, rfl, by rw [h, h2.1]; rfl⟩
        · right; left; rw [h, h2]
      · left; rw [h, m.get_ne v e]
    · exact .inr (.inl h)
    · exact .inr (.inr ⟨k + 1, by omega, by simpa using h⟩)
theorem Tm.fill_n : ∀ (vs : List V) (i : Nat) (m : Tm), (Tm.fill vs i m).n = m.n
  | [], _, _ => rfl
  | _ :: vs, i, m => by unfold Tm.fill; rw [Tm.fill_n vs]; rfl
def Tm.start (n : Nat) (vs : List V) : Tm := Tm.fill vs 0 ⟨n, Tr.mk0 11⟩
theorem Tm.start_get (n : Nat) (vs : List V) (t : Nat) : (Tm.start n vs).get t = .junk ∨ vs[t]? = some ((Tm.start n vs).get t) := by
  have h0 : (⟨n, Tr.mk0 11⟩ : Tm).get t = .junk := by
    unfold Tm.get
    cases Nat.blt t n
    · rfl
    · exact Tr.mk0_get _ _
  rcases Tm.fill_get vs 0 ⟨n, Tr.mk0 11⟩ t with h | h | ⟨k, hk, h⟩
  · left; unfold Tm.start; rw [h, h0]
  · exact .inl h
  · right; rw [show t = k by omega] at h ⊢; exact h

def evalV (tm : Tm) : Operand → V
  | .tmp t => tm.get t
  | .const v => ofValue v
  | .func f => .fn f []
  | .global _ => .junk

structure St where
  tm : Tm
  hp : Hp
  wr : List Nat

def wantedV (ops : Array Oper) (tm : Tm) (o : Oper) : Option Bool :=
  match o.guard with
  | none => some true
  | some (j, want) =>
    match (ops[j]?).bind (·.dst) with
    | some d => match tm.get d with
      | .bool b => some (b == want)
      | .lit (.tuple _) => some false
      | _ => none
    | none => none

def putV (tm : Tm) (d : Option Tmp) (v : V) : Tm :=
  match d with
  | some d => tm.put d v
  | none => tm
def putK {β : Type _} (tm : Tm) (d : Option Tmp) (v : V) (k : Tm → β) : β :=
  match d with
  | some d => tm.t.setK d v fun t => k ⟨tm.n, t⟩
  | none => k tm
theorem putK_eq {β : Type _} (tm : Tm) (d : Option Tmp) (v : V) (k : Tm → β) : putK tm d v k = k (putV tm d v) := by
  cases d with
  | none => rfl
  | some d =>
    show (tm.t.setK d v fun t => k ⟨tm.n, t⟩) = _
    rw [Tr.setK_eq]
    rfl

def forceL {α : Type} {β : Type _} (l : List α) (k : List α → β) : β :=
  match l with
  | [] => k []
  | x :: xs => forceL xs fun ys => k (x :: ys)
theorem forceL_eq {α : Type} {β : Type _} : ∀ (l : List α) (k : List α → β), forceL l k = k l
  | [], _ => rfl
  | x :: xs, k => by unfold forceL; rw [forceL_eq xs]
def forceV {β : Type _} (v : V) (k : V → β) : β :=
  match v with
  | .int a n => k (.int a n)
  | .bool b => k (.bool b)
  | .str s => k (.str s)
  | .nilp => k .nilp
  | .ptr b o => k (.ptr b o)
  | .sl b o n f => k (.sl b o n f)
  | .dsl n f cs => k (.dsl n f cs)
  | .dptr cs => k (.dptr cs)
  | .sld cs => k (.sld cs)
  | .slo cs => k (.slo cs)
  | .agg cs => k (.agg cs)
  | .tup cs => k (.tup cs)
  | .fn f cs => k (.fn f cs)
  | .box f cs => k (.box f cs)
  | .eptr b o r => k (.eptr b o r)
  | .osl T n o cs => k (.osl T n o cs)
  | .nilf => k .nilf
  | .lit u => k (.lit u)
  | .junk => k .junk
theorem forceV_eq {β : Type _} (v : V) (k : V → β) : forceV v k = k v := by cases v <;> rfl
def forceW (new old : List Nat) : List Nat :=
  match new with
  | [] => old
  | x :: xs => old ++ x :: xs
theorem forceW_eq (new old : List Nat) : forceW new old = old ++ new := by cases new <;> simp [forceW]

noncomputable def evStep (P : Program) (callF : CallF) (ops : Array Oper) (s : St) (o : Oper) : Option (St × List Nat × List Nat) :=
  match wantedV ops s.tm o with
  | some true =>
    match evOp P callF (evalV s.tm) s.hp o.op with
    | some out => forceV out.v fun v => putK s.tm o.dst v fun tm => some (⟨tm, out.hp, forceW out.wr s.wr⟩, out.acc, out.wr)
    | none => none
  | some false => putK s.tm o.dst (.lit undef) fun tm => some (⟨tm, s.hp, s.wr⟩, [], [])
  | none => none

noncomputable def evOps (P : Program) (callF : CallF) (ops : Array Oper) : List Oper → St → Option St
  | [], s => some s
  | o :: rest, s => match evStep P callF ops s o with
    | some (s', _) => evOps P callF ops rest s'
    | none => none

inductive Ex where
  | normal
  | exit (id : Nat)
  | ret

def iter (step : St → Option (Ex × St)) : Nat → St → Option (Ex × St)
  | 0, _ => none
  | n + 1, s => match step s with
    | some (.normal, s') => iter step n s'
    | r => r

end Go.Proofs.YtfncaghjfgnnhaaGreatDoor

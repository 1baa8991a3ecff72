/-
  The small evaluator's operations on memory do what the machine does.
-/
import Derived.Test.YtlimecojoiimaaaGreatUc
namespace Go.Proofs.YtlimecojoiimaaaGreat
open Go.RowKit

section
variable {P : Program} {I : Nat → Prop} {μ μ' : Mu} {w w' : World} {hp : Hp} {out : Out}

theorem run_isAgg {t : TypeId} {d : TypeDesc} (h : P.underlying t = some d) (w : World) : (isAgg t).run P w = .ok (rowD d) w := by
  unfold isAgg
  rw [Sem.run_bind, run_underlying h w]
  cases d <;> rfl
theorem run_sizeOf {t : TypeId} {s : Nat} (h : szOf P t = some s) (w : World) : (sizeOf t).run P w = .ok s w := by
  unfold szOf at h
  cases hi : P.info? t with
  | none => rw [hi] at h; cases h
  | some i => rw [hi] at h; simp at h; simp [sizeOf, typeInfo, hi, h]

theorem flat_cells {c : V} {v : Value} (h : V.R P I μ w c v) (hf : c.flat = true) : V.RL P I μ w (cellsV c) v.cells.toList := by
  cases c
  case agg cs =>
    simp only [V.R] at h
    obtain ⟨vs, rfl, h⟩ := h
    exact h
  all_goals
    rw [(V.one_cell h hf).2]
    simp only [cellsV, V.RL]
    exact ⟨_, _, rfl, h, rfl⟩

theorem ones {cs : List V} {vs : List Value} (h : V.RL P I μ w cs vs) (h1 : cs.all V.one = true) : ∀ u ∈ vs, u.oneCell' = true := by
  intro u hu
  obtain ⟨j, hj, rfl⟩ := List.getElem_of_mem hu
  have hl := h.length
  have hc : cs[j]? = some (cs[j]'(by omega)) := List.getElem?_eq_getElem (by omega)
  obtain ⟨u', hu', hr⟩ := h.get hc
  rw [List.getElem?_eq_getElem hj] at hu'
  cases hu'
  exact (V.one_cell hr (List.all_eq_true.1 h1 _ (List.getElem_mem (by omega)))).1

theorem Holds.row {b : Nat} {blk : Blk} (h : Holds P I μ w b blk) {g : Nat} (hg : μ b = some g) : ∃ cs, Row w g blk.2 cs ∧ (flat blk.1).length ≤ cs.size ∧ V.RL P I μ w (flat blk.1) (cs.toList.take (flat blk.1).length) := by
  obtain ⟨g', cs, fr, h1, _, h2, h3, h4, h5⟩ := h
  rw [hg] at h1; cases h1
  exact ⟨cs, ⟨fr, h2, h3⟩, h4, h5.toRL⟩

theorem Holds.rowC {b : Nat} {blk : Blk} (h : Holds P I μ w b blk) {g : Nat} (hg : μ b = some g) : ∃ cs, Row w g blk.2 cs ∧ (flat blk.1).length ≤ cs.size ∧ CR P I μ w blk.1 (cs.toList.take (flat blk.1).length) := by
  obtain ⟨g', cs, fr, h1, _, h2, h3, h4, h5⟩ := h
  rw [hg] at h1; cases h1
  exact ⟨cs, ⟨fr, h2, h3⟩, h4, h5⟩

theorem Row.range {g : Nat} {e : TypeId} {cs : Array Value} (h : Row w g e cs) (off n len : Nat) : w.rangeAt g off (((cs.toList.take len).drop off).take n) := by
  intro j v hj
  rw [h.cell]
  rw [List.getElem?_take] at hj
  split at hj
  · rw [List.getElem?_drop, List.getElem?_take] at hj
    split at hj
    · simpa using hj
    · cases hj
  · cases hj

theorem load_sound {t : TypeId} {x : V} {vx : Value} (h : evLoad P hp t x = some out) (hx : V.R P I μ w x vx) (pre : Pre P I μ w hp out.acc out.hp.length) :
    out.hp = hp ∧ out.wr = [] ∧ (∀ b ∈ out.acc, b < hp.length) ∧ ∃ val, (Instr.loadAt t vx).run P w = .ok val w ∧ V.R P I μ w out.v val := by
  unfold evLoad at h
  split at h
  case h_3 => cases h
  case h_2 cs0 =>
    split at h
    case h_2 => cases h
    case h_1 d s hu hs =>
    simp only [V.R] at hx
    obtain ⟨g, off, rfl, hmem⟩ := hx
    split at h
    · rename_i hd
      split at h
      case isFalse => cases h
      case isTrue hl =>
      cases h
      have key : ∃ vals : List Value, w.rangeAt g off vals ∧ V.RL P I μ w (cs0.take s) vals := by
        rcases hmem with rfl | ⟨_, cells, e, fr, hg, hrl⟩
        · exact ⟨[], fun j v hv => by simp at hv, by simp [V.RL]⟩
        · refine ⟨((cells.toList.drop off).take cs0.length).take s, fun j v hv => ?_, RL_up (hrl.take s)⟩
          rw [List.getElem?_take] at hv
          split at hv
          · rw [List.getElem?_take] at hv
            split at hv
            · rw [List.getElem?_drop] at hv
              simpa [World.cell?, hg] using hv
            · cases hv
          · cases hv
      obtain ⟨vals, hr1, hr2⟩ := key
      refine ⟨rfl, rfl, by simp, .agg vals.toArray, ?_, by simp only [V.R]; exact ⟨_, rfl, by simpa using hr2⟩⟩
      simp only [Instr.loadAt, Instr.sureAddr, Sem.run_bind, Sem.run_pure, Result.andThen_ok]
      refine run_loadVar_mid w g off t vals d hr1 hu ?_ ?_
      · cases d <;> first | rfl | exact hd
      · unfold szOf at hs; rw [hs, hr2.length, hl]
    · rename_i hd
      split at h
      case h_2 => cases h
      case h_1 c rest =>
      cases h
      rcases hmem with h0 | ⟨_, cells, e, fr, hg, hrl⟩
      · cases h0
      · obtain ⟨u, hu2, hr⟩ := hrl.get (j := 0) (c := c) rfl
        rw [List.getElem?_take, if_pos (by simp), List.getElem?_drop] at hu2
        have hcell : w.cell? ⟨g, off, none⟩ = some u := by simpa [World.cell?, hg] using hu2
        refine ⟨rfl, rfl, by simp, u, ?_, R_up hr⟩
        simp only [Instr.loadAt, Instr.sureAddr, Sem.run_bind, Sem.run_pure, Result.andThen_ok, loadVar, run_isAgg hu, hd, Bool.false_eq_true, if_false, run_load, hcell]
  case h_1 b off =>
  split at h
  case h_2 => cases h
  case h_1 blk d s hb hu hs =>
  simp only [V.R] at hx
  obtain ⟨g, hg, rfl⟩ := hx
  have hbl : b < hp.length := (List.getElem?_eq_some_iff.1 hb).1
  split at h
  · rename_i hd
    split at h
    · rename_i hl
      cases h
      obtain ⟨cs, hrow, hsz, hrl⟩ := (pre.holds b (by simp) blk hb).row hg
      have hr2 := (hrl.drop off).take s
      refine ⟨rfl, rfl, by simpa using hbl, .agg (((cs.toList.take (flat blk.1).length).drop off).take s).toArray, ?_, ?_⟩
      · simp only [Instr.loadAt, Instr.sureAddr, Sem.run_bind, Sem.run_pure, Result.andThen_ok]
        refine run_loadVar_mid w g off t (((cs.toList.take (flat blk.1).length).drop off).take s) d (hrow.range off s _) hu ?_ ?_
        · cases d <;> first | rfl | exact hd
        · unfold szOf at hs; rw [hs, hr2.length, hl]
      · simp only [V.R]; exact ⟨_, rfl, by simpa using hr2⟩
    · cases h
  · rename_i hd
    split at h
    · rename_i c hc
      cases h
      obtain ⟨u, hu2, hr⟩ := (pre.holds b (by simp) blk hb).cell hg hc
      refine ⟨rfl, rfl, by simpa using hbl, u, ?_, hr⟩
      simp only [Instr.loadAt, Instr.sureAddr, Sem.run_bind, Sem.run_pure, Result.andThen_ok, loadVar, run_isAgg hu, hd, Bool.false_eq_true, if_false, run_load, hu2]
    · cases h

theorem take_splice {α : Type} (l vs : List α) (off len : Nat) (h : off + vs.length ≤ len) (hl : len ≤ l.length) :
    (l.take off ++ vs ++ l.drop (off + vs.length)).take len = (l.take len).take off ++ vs ++ (l.take len).drop (off + vs.length) := by
  apply List.ext_getElem?
  intro j
  have h1 : (List.take off l).length = off := by simp; omega
  have h2 : (List.take off (List.take len l)).length = off := by simp; omega
  simp only [List.getElem?_take, List.getElem?_append, List.length_append, h1, h2, List.getElem?_drop]
  by_cases hj : j < len
  · simp only [hj, if_true]
    by_cases ha : j < off + vs.length
    · simp only [ha, if_true]
    · simp only [ha, if_false]
      rw [if_pos (by omega)]
  · rw [if_neg hj, if_neg (by omega), if_neg (by omega)]

theorem splice_sound {l new l' : List V} {off s : Nat} {vs nv : List Value} (h : spliceV l off s new = some l') (hl : CR P I μ w l vs) (hn : V.RL P I μ w new nv) (hs : new.length = s) (hle : off + s ≤ (flat l).length) :
    (flat l').length = (flat l).length ∧ CR P I μ w l' (vs.take off ++ nv ++ vs.drop (off + s)) := by
  have hfn := flat_of_RL hn
  unfold spliceV at h
  split at h
  · rename_i hseal
    cases h
    have hf := flat_noSeal hseal
    have hrl := hl.toRL
    rw [hf] at hrl hle ⊢
    have hr : V.RL P I μ w (l.take off ++ new ++ l.drop (off + s)) (vs.take off ++ nv ++ vs.drop (off + s)) := ((hrl.take off).append hn).append (hrl.drop (off + s))
    refine ⟨?_, .of hr⟩
    rw [flat_of_RL hr]
    simp only [List.length_append, List.length_take, List.length_drop, hs]; omega
  · split at h
    case h_2 => cases h
    case h_1 hrefs =>
    cases h
    have hnm := hl.nomu hrefs
    refine ⟨?_, ?_⟩
    · rw [flat_seal, flat_append, hfn]
      simp only [flat, List.length_append, List.length_take, List.length_drop, hs, List.append_nil]; omega
    · refine CR.seal_iff.2 ⟨vs.take off, nv ++ vs.drop (off + s), by simp, hnm.take off, (CR.of hn).append (.sealed (hnm.drop (off + s)))⟩

theorem store_sound {t : TypeId} {x y : V} {vx vy : Value} (h : evStore P hp t x y = some out) (hx : V.R P I μ w x vx) (hy : V.R P I μ w y vy) (pre : Pre P I μ w hp out.acc out.hp.length) :
    ∃ w', (Instr.storeAt t vx vy).run P w = .ok () w' ∧ out.v = .junk ∧ Good P I I μ μ w w' hp out.hp out.acc out.wr := by
  unfold evStore at h
  split at h
  case h_2 => cases h
  case h_1 b off =>
  split at h
  case h_2 => cases h
  case h_1 blk s hb hs =>
  simp only [V.R] at hx
  obtain ⟨g, hg, rfl⟩ := hx
  split at h
  case isFalse => cases h
  case isTrue hc =>
  obtain ⟨hf, hl, h1, hle⟩ := hc
  split at h
  case h_2 => cases h
  case h_1 l' hsp =>
  cases h
  obtain ⟨g', cs, fr, hg', _, hw, hfr, hsz, hcr⟩ := pre.holds b (by simp) blk hb
  rw [hg] at hg'; cases hg'
  have hrow : Row w g blk.2 cs := ⟨fr, hw, hfr⟩
  have hfl := flat_cells hy hf
  have hvl : vy.cells.toList.length = s := by rw [hfl.length, hl]
  have hst := storeCells_row P g off blk.2 vy.cells.toList 0 cs w hrow (by omega) (ones hfl h1)
  simp only [Nat.add_zero] at hst
  obtain ⟨hl2, hcr2⟩ := splice_sound hsp hcr hfl hl hle
  refine ⟨w.setRow g (cs.toList.take off ++ vy.cells.toList ++ cs.toList.drop (off + vy.cells.toList.length)).toArray, ?_, rfl, ?_⟩
  · simp only [Instr.storeAt, Instr.sureAddr, Sem.run_bind, Sem.run_pure, Result.andThen_ok, storeVar, run_sizeOf hs]
    rw [if_neg (by simpa using hvl)]
    exact hst
  · have e := take_splice cs.toList vy.cells.toList off (flat blk.1).length (by omega) (by simpa using hsz)
    have hvs : vy.cells.size = s := by simpa using hvl
    refine Good.writeC (blk' := (l', blk.2)) (by simpa using pre) (by simp) hb hg hw rfl ?_ hfr ?_
    · simp only [List.size_toArray, List.length_append, List.length_take, List.length_drop, Array.length_toList]; omega
    · refine ⟨?_, ?_⟩
      · show (flat l').length ≤ _
        rw [hl2]; simp only [List.size_toArray, List.length_append, List.length_take, List.length_drop, Array.length_toList]; omega
      · show CR P I μ w l' (List.take (flat l').length _)
        rw [hl2, e, hvl]
        exact hcr2

theorem newVar_sound {t : TypeId} {x : V} {vx : Value} (hx : V.RL P I μ w (cellsV x) vx.cells.toList) {hp : Hp} {acc : List Nat} (pre : Pre P I μ w hp acc (hp ++ [some (cellsV x, t)]).length) :
    (newVar t vx).run P w = .ok ⟨w.heap.size, 0, none⟩ (w.alloc (.cells vx.cells t)) ∧
    Good P I I μ (μ.put hp.length w.heap.size) w (w.alloc (.cells vx.cells t)) hp (hp ++ [some (cellsV x, t)]) acc [] := by
  refine ⟨by simp [newVar, newRow], ?_⟩
  have hl := hx.length
  simp at hl
  refine (Good.new (blk := (cellsV x, t)) (.inl rfl) (by simpa using pre) (by simp; omega) (.inl (Nat.le_refl _)) ?_).1
  rw [List.take_of_length_le (by simp; omega)]
  exact hx

theorem alloc_sound {t : TypeId} (h : evAlloc P hp t = some out) (pre : Pre P I μ w hp out.acc out.hp.length) :
    ∃ val w' μ', (Instr.alloc t true (.tuple #[])).run P w = .ok val w' ∧ V.R P I μ' w' out.v val ∧ Good P I I μ μ' w w' hp out.hp out.acc out.wr := by
  unfold evAlloc at h
  split at h
  case h_2 => cases h
  case h_1 z hz =>
  cases h
  obtain ⟨i, hi, hz⟩ := Option.bind_eq_some_iff.1 hz
  have hl : (z.cells.toList.map ofScalar).length = z.cells.size := by simp
  refine ⟨.pointer (some ⟨w.heap.size, 0, none⟩), w.alloc (.cells z.cells t), μ.put hp.length w.heap.size, ?_, ?_, ?_⟩
  · simp [Instr.alloc, zeroValue, typeInfo, hi, hz, newVar, newRow]
  · simp only [V.R]; exact ⟨_, Mu.put_at _ _ _, rfl⟩
  · refine (Good.new (blk := (z.cells.toList.map ofScalar, t)) (.inl rfl) (by simpa using pre) (by simp) (.inl (Nat.le_refl _)) ?_).1
    rw [List.take_of_length_le (by simp)]
    exact RL_ofScalar _

theorem box_sound {t : TypeId} {x : V} {vx : Value} (h : evBox hp t x = some out) (hx : V.R P I μ w x vx) (pre : Pre P I μ w hp out.acc out.hp.length) :
    ∃ val w' μ', (Instr.box t vx).run P w = .ok val w' ∧ V.R P I μ' w' out.v val ∧ Good P I I μ μ' w w' hp out.hp out.acc out.wr := by
  unfold evBox at h
  split at h
  case isFalse => cases h
  case isTrue hf =>
  cases h
  obtain ⟨h1, h2⟩ := newVar_sound (t := t) (flat_cells hx hf) pre
  exact ⟨_, _, _, by simp [Instr.box, h1]; rfl, by simp only [V.R]; exact ⟨_, Mu.put_at _ _ _, rfl⟩, h2⟩

theorem foldl_cells (v : Value) (off : Nat) (cells : Array Value) (h : off + v.cells.size ≤ cells.size) :
    (v.cells.zipIdx.foldl (fun cs (x : Value × Nat) => cs.setIfInBounds (off + x.2) x.1) cells).toList = cells.toList.take off ++ v.cells.toList ++ cells.toList.drop (off + v.cells.size) := by
  rw [← Array.foldl_toList, Array.toList_zipIdx]
  obtain ⟨h1, h2⟩ := Great.foldl_set off v.cells.toList 0 cells
  apply List.ext_getElem?
  intro k
  have h2k := h2 k
  simp only [Array.length_toList, Nat.add_zero] at h2k
  rw [Array.getElem?_toList, h2k]
  have hl : (List.take off cells.toList).length = off := by simp; omega
  simp only [List.getElem?_append, List.length_append, hl, List.getElem?_take, List.getElem?_drop, Array.length_toList]
  by_cases ha : k < off
  · rw [if_neg (by omega), if_pos (by omega), if_pos ha]
    simp [ha]
  · by_cases hb : k < off + v.cells.size
    · rw [if_pos (by omega), if_pos hb, if_neg ha]
    · rw [if_neg (by omega), if_neg hb]
      rw [show off + v.cells.size + (k - (off + v.cells.size)) = k by omega]
      simp

inductive Parts (P : Program) (I : Nat → Prop) (μ : Mu) (w : World) : List (Nat × V) → List (Nat × Value) → Prop where
  | nil : Parts P I μ w [] []
  | cons {i : Nat} {x : V} {v : Value} {xs : List (Nat × V)} {vs : List (Nat × Value)} (h : V.R P I μ w x v) (t : Parts P I μ w xs vs) : Parts P I μ w ((i, x) :: xs) ((i, v) :: vs)

theorem fill_sound (place : Nat → Option (Nat × Nat)) {xs : List (Nat × V)} {vs : List (Nat × Value)} (hp : Parts P I μ w xs vs) : ∀ {cells : List V} {cv : Array Value} {r : List V}, V.RL P I μ w cells cv.toList → fillV place cells xs = some r →
    ∃ rv, Instr.fill place cv vs = some rv ∧ V.RL P I μ w r rv.toList ∧ r.length = cells.length := by
  induction hp with
  | nil => intro cells cv r hc h; cases h; exact ⟨cv, rfl, hc, rfl⟩
  | @cons i x v xs vs hx _ ih =>
    intro cells cv r hc h
    unfold fillV at h
    split at h
    case h_1 => cases h
    case h_2 off size hpl =>
    split at h
    case isFalse => cases h
    case isTrue hcond =>
    obtain ⟨hf, hl, hle⟩ := hcond
    have hfc := flat_cells hx hf
    have hvs : v.cells.size = size := by have := hfc.length; simp at this; omega
    have hcl := hc.length
    simp at hcl
    have hfold := foldl_cells v off cv (by omega)
    have hrl : V.RL P I μ w (cells.take off ++ cellsV x ++ cells.drop (off + size)) (v.cells.zipIdx.foldl (fun cs (x : Value × Nat) => cs.setIfInBounds (off + x.2) x.1) cv).toList := by
      rw [hfold, hvs]
      exact ((hc.take off).append hfc).append (hc.drop (off + size))
    obtain ⟨rv, h1, h2, h3⟩ := ih hrl h
    refine ⟨rv, ?_, h2, ?_⟩
    · unfold Instr.fill
      rw [hpl]
      simp only
      rw [if_neg (by simp; omega)]
      exact h1
    · rw [h3]; simp only [List.length_append, List.length_take, List.length_drop, hl]; omega

theorem build_sound {t : TypeId} {ps : List (Nat × V)} {vs : Array (Nat × Value)} (h : evBuild P hp t ps = some out) (hps : Parts P I μ w ps vs.toList) :
    out.hp = hp ∧ out.wr = [] ∧ out.acc = [] ∧ ∃ val, (Instr.build t vs).run P w = .ok val w ∧ V.R P I μ w out.v val := by
  unfold evBuild at h
  split at h
  case h_2 => cases h
  case h_1 it fields hi hu =>
  split at h
  case h_2 => cases h
  case h_1 z places hz hpl =>
  split at h
  case h_2 => cases h
  case h_1 cells hc =>
  cases h
  obtain ⟨rv, h1, h2, _⟩ := fill_sound _ hps (cv := z.cells) (RL_ofScalar _) hc
  refine ⟨rfl, rfl, rfl, .agg rv, run_build w t vs rv ?_, by simp only [V.R]; exact ⟨_, rfl, h2⟩⟩
  simp only [Program.built, hi, hu, hz, hpl]
  rw [← h1]
  congr 1
  funext i
  simp

theorem RL_zeros (z : Array Value) (n : Nat) : V.RL P I μ w (zeros (z.toList.map ofScalar) n) ((Array.range n).map (z[· % z.size]!)).toList := by
  refine .of (by simp [zeros]) fun j c u hc hu => ?_
  simp only [zeros, List.length_map, Array.length_toList] at hc
  rw [List.getElem?_map] at hc
  simp only [Array.toList_map, List.getElem?_map, Array.toList_range] at hu
  cases hj : (List.range n)[j]? with
  | none => rw [hj] at hc; cases hc
  | some k =>
    rw [hj] at hc hu
    simp at hc hu
    subst hc hu
    by_cases hk : k % z.size < z.size
    · simp [hk, R_ofScalar]
    · simp [hk, V.R]

theorem buildSlice_sound {t : TypeId} {n : Nat} {ps : List (Nat × V)} {vs : Array (Nat × Value)} (h : evBuildSlice P hp t n ps = some out) (hps : Parts P I μ w ps vs.toList) (pre : Pre P I μ w hp out.acc out.hp.length) :
    ∃ val w' μ', (Instr.buildSlice t n vs).run P w = .ok val w' ∧ V.R P I μ' w' out.v val ∧ Good P I I μ μ' w w' hp out.hp out.acc out.wr := by
  unfold evBuildSlice at h
  split at h
  case h_2 => cases h
  case h_1 elem hu =>
  split at h
  case h_2 => cases h
  case h_1 i hi =>
  split at h
  case h_2 => cases h
  case h_1 z hz =>
  split at h
  case isFalse => cases h
  case isTrue hcond =>
  obtain ⟨hle, hpos, hzs⟩ := hcond
  split at h
  case h_2 => cases h
  case h_1 cells hc =>
  cases h
  have hrl : ∃ zz : Array Value, (if n * i.size = 0 then (#[] : Array Value) else z.cells) = zz ∧ V.RL P I μ w (zeros (z.cells.toList.map ofScalar) (n * i.size)) ((Array.range (n * i.size)).map (zz[· % zz.size]!)).toList := by
    refine ⟨_, rfl, ?_⟩
    split
    · rename_i h0; rw [h0]; simp [zeros, V.RL]
    · exact RL_zeros _ _
  obtain ⟨zz, hzz, hrl⟩ := hrl
  obtain ⟨rv, h1, h2, h3⟩ := fill_sound _ hps hrl hc
  have hsz : rv.size = n * i.size := by
    have := h2.length
    simp at this
    rw [this, h3]; simp [zeros]
  have hcl : cells.length = n * i.size := by rw [h3]; simp [zeros]
  obtain ⟨hg, hsh⟩ := Good.new (P := P) (I := I) (μ := μ) (w := w) (hp := hp) (acc := []) (blk := (cells, elem)) (cs := rv) (fr := (0, 0)) (wd := w) (.inl rfl) (by simpa using pre) (by simp; omega) (.inl (Nat.le_refl _)) (by rw [List.take_of_length_le (by simp; omega)]; exact h2)
  refine ⟨.slice (some ⟨w.heap.size, 0, none⟩) n n, _, _, ?_, ?_, hg⟩
  · by_cases h0 : n * i.size = 0
    · rw [if_pos h0] at hzz
      subst hzz
      simp [Instr.buildSlice, run_underlying hu, sizeOf, typeInfo, hi, h0] at h1 ⊢
      simp [h1, newRow]
    · rw [if_neg h0] at hzz
      subst hzz
      have hle' : ¬ 16777216 < n * i.size := by omega
      simp [Instr.buildSlice, run_underlying hu, sizeOf, typeInfo, zeroValue, hi, hz, h0, hle', h1, newRow]
  · simp only [V.R]
    have hn : n ≤ n * i.size := Nat.le_mul_of_pos_right _ hpos
    exact ⟨_, n, elem, _, i, Mu.put_at _ _ _, rfl, Nat.le_refl _, by simp only [maxLen]; omega, fun _ => rfl, hsh, hi, by simp; omega⟩

end
end Go.Proofs.YtlimecojoiimaaaGreat

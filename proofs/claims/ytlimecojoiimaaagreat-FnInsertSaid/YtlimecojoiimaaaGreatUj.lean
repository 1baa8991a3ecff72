/-
  The small evaluator: renaming and calls do what the machine does.
-/
import Derived.Test.YtlimecojoiimaaaGreatUi
import Derived.LoopN
namespace Go.Proofs.YtlimecojoiimaaaGreat
open Go.RowKit

section
variable {P : Program} {I : Nat → Prop} {μ μ' : Mu} {w w' : World} {hp : Hp} {out : Out}

theorem pos_spec : ∀ {ids : List Nat} {b j : Nat}, pos ids b = some j → ids[j]? = some b
  | [], _, _, h => by cases h
  | x :: t, b, j, h => by
    unfold pos at h
    split at h
    · rename_i e; cases h; simp [e]
    · obtain ⟨k, hk, rfl⟩ := Option.map_eq_some_iff.1 h
      simpa using pos_spec hk
theorem pos_of : ∀ {ids : List Nat} {b j : Nat}, ids.Nodup → ids[j]? = some b → pos ids b = some j
  | [], _, _, _, h => by simp at h
  | x :: t, b, j, hn, h => by
    unfold pos
    rw [List.nodup_cons] at hn
    cases j with
    | zero => simp at h; rw [if_pos h]
    | succ j =>
      simp at h
      have hb : b ∈ t := List.mem_of_getElem? h
      rw [if_neg (by rintro rfl; exact hn.1 hb), pos_of hn.2 h]
      rfl

mutual
theorem ren_sound {ρ : Nat → Option Nat} (h : ∀ b b' g, ρ b = some b' → μ b = some g → μ' b' = some g) : ∀ (c : V) (v : Value), V.R P I μ w c v → V.R P I μ' w (V.ren ρ c) v
  | .int _ _, _, k => by simpa [V.R, V.ren] using k
  | .bool _, _, k => by simpa [V.R, V.ren] using k
  | .str _, _, k => by simpa [V.R, V.ren] using k
  | .nilp, _, k => by simpa [V.R, V.ren] using k
  | .ptr b off, _, k => by
    simp only [V.ren]
    split
    · rename_i b' hb
      simp only [V.R] at k ⊢
      obtain ⟨g, hg, k⟩ := k
      exact ⟨g, h _ _ _ hb hg, k⟩
    · simp [V.R]
  | .sl b off n f, _, k => by
    simp only [V.ren]
    split
    · rename_i b' hb
      simp only [V.R] at k ⊢
      obtain ⟨g, cap, e, N, i, hg, k⟩ := k
      exact ⟨g, cap, e, N, i, h _ _ _ hb hg, k⟩
    · simp [V.R]
  | .dsl _ _ _, _, k => by simpa [V.R, V.ren] using k
  | .dptr _, _, k => by simpa [V.R, V.ren] using k
  | .sld _, _, k => by simp [V.R] at k
  | .agg cs, _, k => by
    simp only [V.R, V.ren] at k ⊢
    obtain ⟨vs, h1, h2⟩ := k
    exact ⟨vs, h1, renL_sound h cs _ h2⟩
  | .tup cs, _, k => by
    simp only [V.R, V.ren] at k ⊢
    obtain ⟨vs, h1, h2⟩ := k
    exact ⟨vs, h1, renL_sound h cs _ h2⟩
  | .fn _ cs, _, k => by
    simp only [V.R, V.ren] at k ⊢
    obtain ⟨vs, h1, h2⟩ := k
    exact ⟨vs, h1, renL_sound h cs _ h2⟩
  | .nilf, _, k => by simpa [V.R, V.ren] using k
  | .lit _, _, k => by simpa [V.R, V.ren] using k
  | .junk, _, _ => by simp [V.R, V.ren]
theorem renL_sound {ρ : Nat → Option Nat} (h : ∀ b b' g, ρ b = some b' → μ b = some g → μ' b' = some g) : ∀ (cs : List V) (vs : List Value), V.RL P I μ w cs vs → V.RL P I μ' w (V.renL ρ cs) vs
  | [], _, k => by simpa [V.RL, V.renL] using k
  | c :: cs, _, k => by
    simp only [V.RL, V.renL] at k ⊢
    obtain ⟨u, us, h1, h2, h3⟩ := k
    exact ⟨u, us, h1, ren_sound h c u h2, renL_sound h cs us h3⟩
end
theorem renL_length (ρ : Nat → Option Nat) : ∀ cs : List V, (V.renL ρ cs).length = cs.length
  | [] => rfl
  | _ :: cs => by simp [V.renL, renL_length ρ cs]

theorem ren_noSeal {ρ : Nat → Option Nat} {x : V} (hx : ∀ c, x ≠ .sld c) : ∀ c, V.ren ρ x ≠ .sld c := by
  intro c e
  cases x <;> simp only [V.ren] at e <;> first | (split at e <;> cases e; done) | (cases e; done) | exact hx _ rfl
theorem CR.ren {ρ : Nat → Option Nat} (h : ∀ b b' g, ρ b = some b' → μ b = some g → μ' b' = some g) : ∀ {l : List V} {vs : List Value}, CR P I μ w l vs → CR P I μ' w (V.renL ρ l) vs
  | [], _, k => by simpa [CR, V.renL] using k
  | x :: t, vs, k => by
    simp only [V.renL]
    rcases seal_or x with ⟨c, rfl⟩ | hx
    · obtain ⟨us, vs', rfl, h1, h2⟩ := CR.seal_iff.1 k
      exact CR.seal_iff.2 ⟨us, vs', rfl, h1, CR.ren h h2⟩
    · obtain ⟨u, us, rfl, h1, h2⟩ := (CR.cons_iff hx).1 k
      exact (CR.cons_iff (ren_noSeal hx)).2 ⟨u, us, rfl, ren_sound h _ _ h1, CR.ren h h2⟩
theorem flat_ren_length (ρ : Nat → Option Nat) : ∀ l : List V, (flat (V.renL ρ l)).length = (flat l).length
  | [] => rfl
  | x :: t => by
    simp only [V.renL]
    rcases seal_or x with ⟨c, rfl⟩ | hx
    · simp only [V.ren, flat_seal, List.length_append, flat_ren_length ρ t]
    · rw [flat_cons hx, flat_cons (ren_noSeal hx), List.length_cons, List.length_cons, flat_ren_length ρ t]
theorem Holds.ren {ρ : Nat → Option Nat} {b b' : Nat} {blk : Blk} (hh : Holds P I μ w b blk) (h : ∀ b b' g, ρ b = some b' → μ b = some g → μ' b' = some g) (hb : ∀ g, μ b = some g → μ' b' = some g) : Holds P I μ' w b' (V.renL ρ blk.1, blk.2) := by
  obtain ⟨g, cs, fr, h1, h0, h2, h3, h4, h5⟩ := hh
  refine ⟨g, cs, fr, hb g h1, h0, h2, h3, ?_, ?_⟩
  · show (flat (V.renL ρ blk.1)).length ≤ _
    rw [flat_ren_length]; exact h4
  · show CR P I μ' w (V.renL ρ blk.1) (List.take (flat (V.renL ρ blk.1)).length _)
    rw [flat_ren_length]; exact h5.ren h

theorem renB_some {ρ : Nat → Option Nat} {x : Option Blk} {blk : Blk} (h : renB ρ x = some blk) : ∃ blk0, x = some blk0 ∧ blk = (V.renL ρ blk0.1, blk0.2) := by
  unfold renB at h
  obtain ⟨b, hb, rfl⟩ := Option.map_eq_some_iff.1 h
  exact ⟨b, hb, rfl⟩

def Alive (hp : Hp) (b : Nat) : Prop := ∃ blk, hp[b]? = some (some blk)

theorem reach_good (hp : Hp) : ∀ (n : Nat) (todo seen : List Nat), seen.Nodup → (∀ b ∈ seen, Alive hp b) → (reach hp n todo seen).Nodup ∧ (∀ b ∈ reach hp n todo seen, Alive hp b)
  | 0, _, seen, h1, h2 => ⟨h1, h2⟩
  | n + 1, [], seen, h1, h2 => ⟨h1, h2⟩
  | n + 1, b :: t, seen, h1, h2 => by
    unfold reach
    split
    · exact reach_good hp n t seen h1 h2
    · rename_i hc
      have hb : b ∉ seen := by simpa using hc
      split
      · rename_i blk hblk
        refine reach_good hp n _ _ ?_ ?_
        · rw [List.nodup_append]
          refine ⟨h1, by simp, fun a ha c hc e => ?_⟩
          simp at hc; subst hc; subst e; exact hb ha
        · intro c hc
          rcases List.mem_append.1 hc with hc | hc
          · exact h2 c hc
          · simp at hc; subst hc; exact ⟨blk, hblk⟩
      · exact reach_good hp n t seen h1 h2

/-- What a function's evaluation promises. -/
structure FnTidy (hp : Hp) (r : Ret) : Prop where
  len : hp.length ≤ r.hp.length
  frame : ∀ b, b < hp.length → b ∉ r.wr → r.hp[b]? = hp[b]?
  wrb : ∀ b ∈ r.wr, b < hp.length
  alive : ∀ b, b < hp.length → Alive r.hp b → Alive hp b

def FnOK (P : Program) (f : FuncId) (vs : List V) (hp : Hp) (r : Ret) : Prop :=
  FnTidy hp r ∧ ∀ (I : Nat → Prop) (w : World) (μ : Mu) (vals : Array Value), V.RL P I μ w vs vals.toList → Pre P I μ w hp (List.range hp.length) r.hp.length → (∀ b g, μ b = some g → b < hp.length) →
    Calls P f vals w fun e w' => ∃ val μ' I', e = .returned val ∧ V.R P I' μ' w' r.v val ∧ Good P I I' μ μ' w w' hp r.hp (List.range hp.length) r.wr

def CallOK (P : Program) (callF : CallF) : Prop := ∀ f vs hp r, callF f vs hp = some r → FnOK P f vs hp r

theorem zipIdx_at {α β : Type} (l : List α) (f : α × Nat → β) (b : Nat) : ((l.zipIdx).map f)[b]? = (l[b]?).map fun x => f (x, b) := by
  simp [List.getElem?_map, List.getElem?_zipIdx]
  cases l[b]? <;> simp

theorem call_sound {callF : CallF} (hc : CallOK P callF) {f : FuncId} {vs : List V} {vals : Array Value} (h : evCall callF hp f vs = some out) (hv : V.RL P I μ w vs vals.toList) (pre : Pre P I μ w hp out.acc out.hp.length) :
    Calls P f vals w fun e w' => ∃ val μ' I', e = .returned val ∧ V.R P I' μ' w' out.v val ∧ Good P I I' μ μ' w w' hp out.hp out.acc out.wr := by
  unfold evCall at h
  simp only at h
  generalize hids : reach hp 100000 (V.refsL vs) [] = ids at h
  obtain ⟨hnd, hal⟩ := reach_good hp 100000 (V.refsL vs) [] (by simp) (by simp)
  rw [hids] at hnd hal
  split at h
  case h_2 => cases h
  case h_1 r hr =>
  cases h
  obtain ⟨ht, hok⟩ := hc _ _ _ _ hr
  generalize hsub : (ids.map fun b => renB (pos ids) (hp.getD b none)) = sub at hr ht hok
  have hsl : sub.length = ids.length := by rw [← hsub]; simp
  have hlt : ∀ b ∈ ids, b < hp.length := fun b hb => by obtain ⟨blk, h⟩ := hal b hb; exact at_lt h
  let μc : Mu := fun j => match ids[j]? with
    | some b => μ b
    | none => none
  have hμc : ∀ j b, ids[j]? = some b → μc j = μ b := by intro j b h; simp [μc, h]
  have hμn : ∀ j, ids.length ≤ j → μc j = none := by intro j h; simp [μc, List.getElem?_eq_none h]
  have hρ : ∀ b b' g, pos ids b = some b' → μ b = some g → μc b' = some g := by
    intro b b' g hb hg; rw [hμc b' b (pos_spec hb)]; exact hg
  have hsubat : ∀ (j b : Nat), ids[j]? = some b → ∀ blk : Blk, hp[b]? = some (some blk) → sub[j]? = some (some (V.renL (pos ids) blk.1, blk.2)) := by
    intro j b hj blk hblk
    rw [← hsub, List.getElem?_map, hj]
    simp [List.getD_eq_getElem?_getD, hblk, renB]
  have hsubinv : ∀ (j : Nat) (blk : Blk), sub[j]? = some (some blk) → ∃ b blk0, ids[j]? = some b ∧ hp[b]? = some (some blk0) ∧ blk = (V.renL (pos ids) blk0.1, blk0.2) := by
    intro j blk hj
    rw [← hsub, List.getElem?_map] at hj
    obtain ⟨b, hb, hj⟩ := Option.map_eq_some_iff.1 hj
    obtain ⟨blk0, hb0⟩ := hal b (List.mem_of_getElem? hb)
    simp only [List.getD_eq_getElem?_getD, hb0, Option.getD_some, renB, Option.map_some] at hj
    exact ⟨b, blk0, hb, hb0, (by cases hj; rfl)⟩
  have hpre : Pre P I μc w sub (List.range sub.length) r.hp.length := by
    refine ⟨pre.ilt, fun j hj blk hblk => ?_, fun j hj k hk b1 b2 g hne h1 h2 g1 g2 => ?_, fun j hj _ => hμn j (by omega)⟩
    · obtain ⟨b, blk0, hb, hb0, rfl⟩ := hsubinv j blk hblk
      exact (pre.holds b (List.mem_of_getElem? hb) blk0 hb0).ren hρ fun g hg => by rw [hμc j b hb]; exact hg
    · obtain ⟨b, c0, hb, hb0, _⟩ := hsubinv j b1 h1
      obtain ⟨c, c1, hc, hc0, _⟩ := hsubinv k b2 h2
      rw [hμc j b hb] at g1
      rw [hμc k c hc] at g2
      refine pre.inj b (List.mem_of_getElem? hb) c (List.mem_of_getElem? hc) _ _ g (fun e => hne ?_) hb0 hc0 g1 g2
      subst e
      have h1 := pos_of hnd hb
      rw [pos_of hnd hc] at h1
      cases h1; rfl
  have hdomc : ∀ b g, μc b = some g → b < sub.length := by
    intro j g hg
    rcases Nat.lt_or_ge j sub.length with h | h
    · exact h
    · rw [hμn j (by omega)] at hg; cases hg
  refine (hok I w μc vals (renL_sound hρ _ _ hv) hpre hdomc).mono ?_
  rintro e w' ⟨val, μc', I', rfl, hR, hG⟩
  have htop : (hp.length + (r.hp.length - ids.length)) = ((hp.zipIdx.map fun x => if (r.wr.filterMap fun j => ids[j]?).contains x.2 then renB (backTo ids hp.length) (((pos ids x.2).bind fun j => r.hp[j]?).getD none) else x.1) ++ (r.hp.drop ids.length).map (renB (backTo ids hp.length))).length := by simp
  let μ' : Mu := fun b => if b < hp.length then μ b else if b < hp.length + (r.hp.length - ids.length) then μc' (ids.length + (b - hp.length)) else μ b
  have hμ'o : ∀ b, b < hp.length → μ' b = μ b := fun b hb => by simp [μ', hb]
  have hlenr : ids.length ≤ r.hp.length := by have := ht.len; omega
  have hμ'n : ∀ k, ids.length + k < r.hp.length → μ' (hp.length + k) = μc' (ids.length + k) := fun k hk => by
    have h1 : ¬ hp.length + k < hp.length := by omega
    have h2 : hp.length + k < hp.length + (r.hp.length - ids.length) := by omega
    simp only [μ', h1, h2, if_true, if_false]
    rw [show ids.length + (hp.length + k - hp.length) = ids.length + k by omega]
  have hdomc' : ∀ j g, μc' j = some g → j < r.hp.length := by
    intro j g hg
    rcases hG.dom j g hg with h | ⟨_, h⟩
    · have := hdomc j g h; have := ht.len; omega
    · exact h
  have hold : ∀ j b, ids[j]? = some b → ∀ g, μc' j = some g → μ b = some g := by
    intro j b hj g hg
    have hjl : j < ids.length := (List.getElem?_eq_some_iff.1 hj).1
    rcases hG.dom j g hg with h | ⟨h, _⟩
    · rwa [hμc j b hj] at h
    · omega
  have hle : MuLe μ μ' := by
    intro b g hb
    rcases Nat.lt_or_ge b hp.length with h | h
    · rw [hμ'o b h]; exact hb
    · rcases Nat.lt_or_ge b (hp.length + (r.hp.length - ids.length)) with h2 | h2
      · rw [pre.fresh b h (by rw [← htop]; exact h2)] at hb; cases hb
      · have h1 : ¬ b < hp.length := by omega
        have h3 : ¬ b < hp.length + (r.hp.length - ids.length) := by omega
        simp only [μ', h1, h3, if_false]; exact hb
  have hback : ∀ j b' g, backTo ids hp.length j = some b' → μc' j = some g → μ' b' = some g := by
    intro j b' g hj hg
    unfold backTo at hj
    split at hj
    · have := hold j b' hj g hg
      rw [hμ'o b' (hlt b' (List.mem_of_getElem? hj))]; exact this
    · rename_i hjl
      cases hj
      have := hdomc' j g hg
      rw [hμ'n _ (by omega)]
      rw [show ids.length + (j - ids.length) = j by omega]; exact hg
  have hX : Evo I w w' (fun k => ∃ b ∈ r.wr.filterMap (fun j => ids[j]?), μ b = some k) := hG.evo.mono fun k hk => by
    obtain ⟨j, hj, hk⟩ := hk
    have hjl := ht.wrb j hj
    have hjb : ids[j]? = some ids[j] := List.getElem?_eq_getElem (by omega)
    exact ⟨ids[j], List.mem_filterMap.2 ⟨j, hj, hjb⟩, by rw [← hμc j _ hjb]; exact hk⟩
  generalize hhp' : ((hp.zipIdx.map fun x => if (r.wr.filterMap fun j => ids[j]?).contains x.2 then renB (backTo ids hp.length) (((pos ids x.2).bind fun j => r.hp[j]?).getD none) else x.1) ++ (r.hp.drop ids.length).map (renB (backTo ids hp.length))) = hp' at htop pre ⊢
  -- the blocks of the new heap: where they come from
  have hA : ∀ b blk, hp'[b]? = some (some blk) → (b < hp.length ∧ b ∉ r.wr.filterMap (fun j => ids[j]?) ∧ hp[b]? = some (some blk)) ∨
      (∃ j blk0, r.hp[j]? = some (some blk0) ∧ blk = (V.renL (backTo ids hp.length) blk0.1, blk0.2) ∧ (∀ g, μ' b = some g → μc' j = some g) ∧ (∀ g, μc' j = some g → μ' b = some g) ∧ ((b < hp.length ∧ ids[j]? = some b ∧ j ∈ r.wr) ∨ (hp.length ≤ b ∧ j = ids.length + (b - hp.length)))) := by
    intro b blk hb
    rw [← hhp', List.getElem?_append] at hb
    simp only [List.length_map, List.length_zipIdx] at hb
    split at hb
    · rename_i hbl
      rw [zipIdx_at] at hb
      obtain ⟨x, hx, hb⟩ := Option.map_eq_some_iff.1 hb
      simp only at hb
      split at hb
      · rename_i hw
        have hw' : b ∈ r.wr.filterMap fun j => ids[j]? := by simpa using hw
        obtain ⟨j, hj, hjb⟩ := List.mem_filterMap.1 hw'
        rw [pos_of hnd hjb] at hb
        obtain ⟨blk0, h0, rfl⟩ := renB_some hb
        have h1 : r.hp[j]? = some (some blk0) := by
          simp only [Option.bind_some] at h0
          cases hrj : r.hp[j]? with
          | none => rw [hrj] at h0; cases h0
          | some y => rw [hrj] at h0; simp at h0; rw [h0]
        have hjl : j < ids.length := (List.getElem?_eq_some_iff.1 hjb).1
        refine .inr ⟨j, blk0, h1, rfl, fun g hg => ?_, fun g hg => ?_, .inl ⟨hbl, hjb, hj⟩⟩
        · rw [hμ'o b hbl, ← hμc j b hjb] at hg; exact hG.le j g hg
        · rw [hμ'o b hbl]; exact hold j b hjb g hg
      · rename_i hw
        have hw' : b ∉ r.wr.filterMap fun j => ids[j]? := by simpa using hw
        exact .inl ⟨hbl, hw', by rw [hx, hb]⟩
    · rename_i hbl
      rw [List.getElem?_map, List.getElem?_drop] at hb
      obtain ⟨x, hx, hb⟩ := Option.map_eq_some_iff.1 hb
      obtain ⟨blk0, rfl, rfl⟩ := renB_some hb
      have hlt' := (List.getElem?_eq_some_iff.1 hx).1
      have e : μ' b = μc' (ids.length + (b - hp.length)) := by
        have := hμ'n (b - hp.length) hlt'
        rwa [show hp.length + (b - hp.length) = b by omega] at this
      exact .inr ⟨_, blk0, hx, rfl, fun g hg => by rw [← e]; exact hg, fun g hg => by rw [e]; exact hg, .inr ⟨by omega, rfl⟩⟩
  have hjr : ∀ j, j < ids.length → j ∈ List.range sub.length := fun j hj => by simp; omega
  have hin : ∀ b j, (b ∈ ids ∨ hp.length ≤ b) → ((b < hp.length ∧ ids[j]? = some b ∧ j ∈ r.wr) ∨ (hp.length ≤ b ∧ j = ids.length + (b - hp.length))) → (j ∈ List.range sub.length ∨ sub.length ≤ j) := by
    rintro b j _ (⟨_, h, _⟩ | ⟨_, h⟩)
    · exact .inl (hjr j (List.getElem?_eq_some_iff.1 h).1)
    · exact .inr (by omega)
  have hdeadw : ∀ c, c ∈ r.wr → r.hp[c]? = some none → ∀ k, μc c = some k → ∃ d ∈ r.wr.filterMap (fun j => ids[j]?), μ d = some k ∧ (∃ blk, hp[d]? = some (some blk)) ∧ hp'[d]? = some none := by
    intro c hcw hcn k hcg
    have hcl := ht.wrb c hcw
    have hcb : ids[c]? = some (ids[c]'(by omega)) := List.getElem?_eq_getElem (by omega)
    generalize ids[c]'(by omega) = d at hcb
    have hdw : d ∈ r.wr.filterMap fun j => ids[j]? := List.mem_filterMap.2 ⟨c, hcw, hcb⟩
    have hdl := hlt d (List.mem_of_getElem? hcb)
    refine ⟨d, hdw, by rw [← hμc c d hcb]; exact hcg, hal d (List.mem_of_getElem? hcb), ?_⟩
    rw [← hhp', List.getElem?_append_left (by simpa using hdl), zipIdx_at, List.getElem?_eq_getElem hdl]
    simp only [Option.map_some]
    rw [if_pos (by simpa using hdw), pos_of hnd hcb]
    simp [hcn, renB]
  have hnimm : ∀ b blk g, b ∈ ids → b ∉ r.wr.filterMap (fun j => ids[j]?) → hp[b]? = some (some blk) → μ b = some g → ¬ I' g := by
    intro b blk g hbi hbw hb0 hg hI
    have hh := pre.holds b hbi blk hb0
    rcases hG.igrow g hI with h | ⟨h, _⟩ | ⟨c, hcw, hcg, _, hcn⟩
    · exact hh.nimm hg h
    · have := hh.lt hg; omega
    · obtain ⟨d, hdw, hdg, ⟨_, hda⟩, _⟩ := hdeadw c hcw hcn g hcg
      obtain ⟨j, _, hj⟩ := List.mem_filterMap.1 hdw
      exact pre.inj b hbi d (List.mem_of_getElem? hj) _ _ g (by rintro rfl; exact hbw hdw) hb0 hda hg hdg
  refine ⟨val, μ', I', rfl, ren_sound hback _ _ hR, ⟨hG.isub, fun k hk => ?_, hX, hle, fun b g hb => ?_, fun b hb blk hblk => ?_, fun b hb blk hblk g hg => ?_, fun b c b1 b2 g hne hb hc h1 h2 g1 g2 => ?_⟩⟩
  · rcases hG.igrow k hk with h | h | ⟨c, hcw, hcg, _, hcn⟩
    · exact .inl h
    · exact .inr (.inl h)
    · exact .inr (.inr (hdeadw c hcw hcn k hcg))
  · rcases Nat.lt_or_ge b hp.length with h | h
    · rw [hμ'o b h] at hb; exact .inl hb
    · rcases Nat.lt_or_ge b (hp.length + (r.hp.length - ids.length)) with h2 | h2
      · exact .inr ⟨h, by rw [← htop]; exact h2⟩
      · have h1 : ¬ b < hp.length := by omega
        have h3 : ¬ b < hp.length + (r.hp.length - ids.length) := by omega
        simp only [μ', h1, h3, if_false] at hb; exact .inl hb
  · rcases hA b blk hblk with ⟨hbl, hnw, h0⟩ | ⟨j, blk0, hj, rfl, _, hm, hw⟩
    · have hbi : b ∈ ids := by rcases hb with hb | hb; exact hb; omega
      refine (pre.holds b hbi blk h0).keep hX hG.isub hle (fun g hg hx => ?_) (fun g hg => hnimm b blk g hbi hnw h0 hg)
      obtain ⟨c, hc, hcg⟩ := hx
      obtain ⟨j, _, hjc⟩ := List.mem_filterMap.1 hc
      have hci : c ∈ ids := List.mem_of_getElem? hjc
      obtain ⟨blk', hc'⟩ := hal c hci
      exact pre.inj b hbi c hci _ _ g (by rintro rfl; exact hnw hc) h0 hc' hg hcg
    · exact (hG.holds j (hin b j hb hw) blk0 hj).ren hback hm
  · rcases hA b blk hblk with ⟨hbl, _⟩ | ⟨j, blk0, hj, rfl, hm, _, hw⟩
    · omega
    · rcases hw with ⟨hbl, _⟩ | ⟨_, hjb⟩
      · omega
      · rcases hG.prov j (by omega) blk0 hj g (hm g hg) with h | ⟨c, hcw, hcg, hca, hcn⟩
        · exact .inl h
        · exact .inr (hdeadw c hcw hcn g hcg)
  · rcases hA b b1 h1 with ⟨hbl, hbw, hb0⟩ | ⟨j, bj, hj, rfl, hm1, _, hw1⟩
    · have hbi : b ∈ ids := by rcases hb with hb | hb; exact hb; omega
      rw [hμ'o b hbl] at g1
      rcases hA c b2 h2 with ⟨hcl, hcw, hc0⟩ | ⟨k, bk, hk, rfl, hm2, _, hw2⟩
      · have hci : c ∈ ids := by rcases hc with hc | hc; exact hc; omega
        rw [hμ'o c hcl] at g2
        exact pre.inj b hbi c hci _ _ g hne hb0 hc0 g1 g2
      · rcases hw2 with ⟨hcl, hck, hkw⟩ | ⟨hcl, hck⟩
        · rw [hμ'o c hcl] at g2
          have hci : c ∈ ids := List.mem_of_getElem? hck
          obtain ⟨_, hc0⟩ := hal c hci
          exact pre.inj b hbi c hci _ _ g hne hb0 hc0 g1 g2
        · rcases hG.prov k (by omega) bk hk g (hm2 g g2) with h | ⟨d, hdw, hdg, _, _⟩
          · have := (pre.holds b hbi _ hb0).lt g1; omega
          · have hdl := ht.wrb d hdw
            have hdb : ids[d]? = some (ids[d]'(by omega)) := List.getElem?_eq_getElem (by omega)
            generalize ids[d]'(by omega) = q at hdb
            have hqw : q ∈ r.wr.filterMap fun j => ids[j]? := List.mem_filterMap.2 ⟨d, hdw, hdb⟩
            obtain ⟨_, hq0⟩ := hal q (List.mem_of_getElem? hdb)
            rw [hμc d q hdb] at hdg
            exact pre.inj b hbi q (List.mem_of_getElem? hdb) _ _ g (by rintro rfl; exact hbw hqw) hb0 hq0 g1 hdg
    · rcases hA c b2 h2 with ⟨hcl, hcw, hc0⟩ | ⟨k, bk, hk, rfl, hm2, _, hw2⟩
      · have hci : c ∈ ids := by rcases hc with hc | hc; exact hc; omega
        rw [hμ'o c hcl] at g2
        rcases hw1 with ⟨hbl, hbj, hjw⟩ | ⟨hbl, hbj⟩
        · rw [hμ'o b hbl] at g1
          have hbi : b ∈ ids := List.mem_of_getElem? hbj
          obtain ⟨_, hb0⟩ := hal b hbi
          exact pre.inj b hbi c hci _ _ g hne hb0 hc0 g1 g2
        · rcases hG.prov j (by omega) bj hj g (hm1 g g1) with h | ⟨d, hdw, hdg, _, _⟩
          · have := (pre.holds c hci _ hc0).lt g2; omega
          · have hdl := ht.wrb d hdw
            have hdb : ids[d]? = some (ids[d]'(by omega)) := List.getElem?_eq_getElem (by omega)
            generalize ids[d]'(by omega) = q at hdb
            have hqw : q ∈ r.wr.filterMap fun j => ids[j]? := List.mem_filterMap.2 ⟨d, hdw, hdb⟩
            obtain ⟨_, hq0⟩ := hal q (List.mem_of_getElem? hdb)
            rw [hμc d q hdb] at hdg
            exact pre.inj c hci q (List.mem_of_getElem? hdb) _ _ g (by rintro rfl; exact hcw hqw) hc0 hq0 g2 hdg
      · refine hG.inj j k _ _ g (fun e => hne ?_) (hin b j hb hw1) (hin c k hc hw2) hj hk (hm1 g g1) (hm2 g g2)
        subst e
        rcases hw1 with ⟨_, h3, _⟩ | ⟨_, h3⟩ <;> rcases hw2 with ⟨_, h4, _⟩ | ⟨_, h4⟩
        · rw [h3] at h4; cases h4; rfl
        · have := (List.getElem?_eq_some_iff.1 h3).1; omega
        · have := (List.getElem?_eq_some_iff.1 h4).1; omega
        · omega

theorem call_tidy {callF : CallF} (hc : CallOK P callF) {f : FuncId} {vs : List V} (h : evCall callF hp f vs = some out) : Tidy hp out.hp out.acc out.wr := by
  unfold evCall at h
  simp only at h
  generalize hids : reach hp 100000 (V.refsL vs) [] = ids at h
  obtain ⟨hnd, hal⟩ := reach_good hp 100000 (V.refsL vs) [] (by simp) (by simp)
  rw [hids] at hnd hal
  split at h
  case h_2 => cases h
  case h_1 r hr =>
  cases h
  obtain ⟨ht, _⟩ := hc _ _ _ _ hr
  have hlt : ∀ b ∈ ids, b < hp.length := fun b hb => by obtain ⟨blk, h⟩ := hal b hb; exact at_lt h
  refine ⟨by simp, fun b hb hn => ?_, fun b hb => ?_, hlt, fun b hb => ?_⟩
  · rw [List.getElem?_append_left (by simpa using hb), zipIdx_at, List.getElem?_eq_getElem hb]
    simp only [Option.map_some]
    rw [if_neg (by simpa using hn)]
  · obtain ⟨j, _, hj⟩ := List.mem_filterMap.1 hb; exact List.mem_of_getElem? hj
  · obtain ⟨j, _, hj⟩ := List.mem_filterMap.1 hb; exact hal b (List.mem_of_getElem? hj)

end
end Go.Proofs.YtlimecojoiimaaaGreat

/-
  The small evaluator: renaming and calls do what the machine does.
  The small evaluator: one operation of a region; the regions.
  The small evaluator: a region in whatever order.
  The small evaluator: regions.
  The small evaluator: code and functions.
  The small evaluator: results of functions; what is no more named reads as values.
-/
import Derived.Test.YtfncaghjfgnnhaaGreatDoorJxAb
import Derived.LoopN
import Derived.Orders
namespace Go.Proofs.YtfncaghjfgnnhaaGreatDoor
open Go.RowKit

section
variable {P : Program} {I : Nat → Prop} {μ μ' : Mu} {w w' : World} {hp : Hp} {out : Out}

theorem pos_spec : ∀ {ids : List Nat} {b j : Nat}, pos ids b = some j → ids[j]? = some b
  | [], _, _, h => by cases h
  | x :: t, b, j, h => by
    unfold pos at h
    split at h
    · rename_i e; cases h; simp [e]
    · obtain ⟨k, hk, rfl⟩ := Option.map_eq_some_iff.1 h
      simpa using pos_spec hk
theorem pos_of : ∀ {ids : List Nat} {b j : Nat}, ids.Nodup → ids[j]? = some b → pos ids b = some j
  | [], _, _, _, h => by simp at h
  | x :: t, b, j, hn, h => by
    unfold pos
    rw [List.nodup_cons] at hn
    cases j with
    | zero => simp at h; rw [if_pos h]
    | succ j =>
      simp at h
      have hb : b ∈ t := List.mem_of_getElem? h
      rw [if_neg (by rintro rfl; exact hn.1 hb), pos_of hn.2 h]
      rfl

mutual
theorem ren_sound {ρ : Nat → Option Nat} (h : ∀ b b' g, ρ b = some b' → μ b = some g → μ' b' = some g) : ∀ (c : V) (v : Value), V.R P I μ w c v → V.R P I μ' w (V.ren ρ c) v
  | .int _ _, _, k => by simpa [V.R, V.ren] using k
  | .bool _, _, k => by simpa [V.R, V.ren] using k
  | .str _, _, k => by simpa [V.R, V.ren] using k
  | .nilp, _, k => by simpa [V.R, V.ren] using k
  | .ptr b off, _, k => by
    simp only [V.ren]
    split
    · rename_i b' hb
      simp only [V.R] at k ⊢
      obtain ⟨g, hg, k⟩ := k
      exact ⟨g, h _ _ _ hb hg, k⟩
    · simp [V.R]
  | .sl b off n f, _, k => by
    simp only [V.ren]
    split
    · rename_i b' hb
      simp only [V.R] at k ⊢
      rcases k with ⟨g, cap, e, N, i, hg, k⟩ | k
      · exact .inl ⟨g, cap, e, N, i, h _ _ _ hb hg, k⟩
      · exact .inr k
    · simp [V.R]
  | .eptr b base rel, _, k => by
    simp only [V.ren]
    split
    · rename_i b' hb
      simp only [V.R] at k ⊢
      obtain ⟨g, hg, k⟩ := k
      exact ⟨g, h _ _ _ hb hg, k⟩
    · simp [V.R]
  | .osl _ _ _ _, _, k => by simp [V.R] at k
  | .dsl _ _ _, _, k => by simpa [V.R, V.ren] using k
  | .dptr _, _, k => by simpa [V.R, V.ren] using k
  | .sld _, _, k => by simp [V.R] at k
  | .slo _, _, k => by simp [V.R] at k
  | .agg cs, _, k => by
    simp only [V.R, V.ren] at k ⊢
    obtain ⟨vs, h1, h2⟩ := k
    exact ⟨vs, h1, renL_sound h cs _ h2⟩
  | .tup cs, _, k => by
    simp only [V.R, V.ren] at k ⊢
    obtain ⟨vs, h1, h2⟩ := k
    exact ⟨vs, h1, renL_sound h cs _ h2⟩
  | .fn _ cs, _, k => by
    simp only [V.R, V.ren] at k ⊢
    obtain ⟨vs, h1, h2⟩ := k
    exact ⟨vs, h1, renL_sound h cs _ h2⟩
  | .box _ cs, _, k => by
    simp only [V.R, V.ren] at k ⊢
    obtain ⟨vs, h1, h2⟩ := k
    exact ⟨vs, h1, renL_sound h cs _ h2⟩
  | .nilf, _, k => by simpa [V.R, V.ren] using k
  | .lit _, _, k => by simpa [V.R, V.ren] using k
  | .junk, _, _ => by simp [V.R, V.ren]
theorem renL_sound {ρ : Nat → Option Nat} (h : ∀ b b' g, ρ b = some b' → μ b = some g → μ' b' = some g) : ∀ (cs : List V) (vs : List Value), V.RL P I μ w cs vs → V.RL P I μ' w (V.renL ρ cs) vs
  | [], _, k => by simpa [V.RL, V.renL] using k
  | c :: cs, _, k => by
    simp only [V.RL, V.renL] at k ⊢
    obtain ⟨u, us, h1, h2, h3⟩ := k
    exact ⟨u, us, h1, ren_sound h c u h2, renL_sound h cs us h3⟩
end
theorem renL_length (ρ : Nat → Option Nat) : ∀ cs : List V, (V.renL ρ cs).length = cs.length
  | [] => rfl
  | _ :: cs => by simp [V.renL, renL_length ρ cs]

theorem ren_noSeal {ρ : Nat → Option Nat} {x : V} (hx : x.seals = none) : (V.ren ρ x).seals = none := by
  cases x <;> simp only [V.ren] <;> first | rfl | (simp [V.seals] at hx; done) | (split <;> rfl)
theorem ren_seal (ρ : Nat → Option Nat) (o : Bool) (c : List V) : V.ren ρ (mkS o c) = mkS o c := by cases o <;> rfl
theorem ren_isO (ρ : Nat → Option Nat) (x : V) : (V.ren ρ x).isO = x.isO := by
  cases x <;> simp only [V.ren] <;> first | rfl | (split <;> rfl)
theorem ren_O (ρ : Nat → Option Nat) {x : V} (h : x.isO = true) : V.ren ρ x = x := by
  cases x <;> first | rfl | (simp [V.isO] at h)
theorem OX.ren {ρ : Nat → Option Nat} (h : ∀ b b' g, ρ b = some b' → μ b = some g → μ' b' = some g) {F : List Nat} {x : V} {u : Value} (k : OX P I μ w F x u) : OX P I μ' w F (V.ren ρ x) u := by
  unfold OX at k ⊢
  rw [ren_isO]
  cases hx : x.isO with
  | true => rw [hx] at k; rw [ren_O ρ hx]; exact k
  | false => rw [hx] at k; exact ⟨k.1, ren_sound h _ _ k.2⟩
theorem CR.ren {ρ : Nat → Option Nat} (h : ∀ b b' g, ρ b = some b' → μ b = some g → μ' b' = some g) : ∀ {l : List V} {F : List Nat} {vs : List Value}, CR P I μ w F l vs → CR P I μ' w F (V.renL ρ l) vs
  | [], F, _, k => by simp only [V.renL]; exact CR.nil_iff.2 (CR.nil_iff.1 k)
  | x :: t, F, vs, k => by
    simp only [V.renL]
    rcases seal_or x with ⟨o, c, rfl⟩ | hx
    · obtain ⟨us, vs', F1, F2, rfl, rfl, h1, h2⟩ := CR.sealO_iff.1 k
      rw [ren_seal]
      exact CR.sealO_iff.2 ⟨us, vs', F1, F2, rfl, rfl, h1, CR.ren h h2⟩
    · obtain ⟨u, us, F1, F2, rfl, rfl, h1, h2⟩ := (CR.cons_iff hx).1 k
      exact (CR.cons_iff (ren_noSeal hx)).2 ⟨u, us, F1, F2, rfl, rfl, h1.ren h, CR.ren h h2⟩
theorem flat_ren_length (ρ : Nat → Option Nat) : ∀ l : List V, (flat (V.renL ρ l)).length = (flat l).length
  | [] => rfl
  | x :: t => by
    simp only [V.renL]
    rcases seal_or x with ⟨o, c, rfl⟩ | hx
    · simp only [ren_seal, flat_sealO, List.length_append, flat_ren_length ρ t]
    · rw [flat_cons hx, flat_cons (ren_noSeal hx), List.length_cons, List.length_cons, flat_ren_length ρ t]
theorem Holds.ren {ρ : Nat → Option Nat} {b b' : Nat} {blk : Blk} (hh : Holds P I μ w b blk) (h : ∀ b b' g, ρ b = some b' → μ b = some g → μ' b' = some g) (hb : ∀ g, μ b = some g → μ' b' = some g) (h0 : μ b = none → μ' b' = none) (hf : μ'.ft b' = μ.ft b) : Holds P I μ' w b' (V.renL ρ blk.1, blk.2) := by
  rcases hh with ⟨g, cs, fr, h1, h2, h3, h4, ⟨h5, h6⟩, h7, h8⟩ | ⟨h1, h3⟩ | ⟨g, es, ck, c, h1, h2, h3, rfl, h4, h5⟩
  · refine .inl ⟨g, cs, fr, hb g h1, h2, h3, h4, ⟨?_, ?_⟩, by rw [hf]; exact h7, by rw [hf]; exact h8⟩
    · show (flat (V.renL ρ blk.1)).length ≤ _
      rw [flat_ren_length]; exact h5
    · show CR P I μ' w (μ'.ft b') (V.renL ρ blk.1) (List.take (flat (V.renL ρ blk.1)).length _)
      rw [flat_ren_length, hf]; exact h6.ren h
  · exact .inr (.inl ⟨h0 h1, by rw [hf]; exact h3⟩)
  · exact .inr (.inr ⟨g, es, ck, c, hb g h1, h2, h3, by simp only [V.renL, V.ren], h4, by rw [hf]; exact h5⟩)

theorem renB_some {ρ : Nat → Option Nat} {x : Option Blk} {blk : Blk} (h : renB ρ x = some blk) : ∃ blk0, x = some blk0 ∧ blk = (V.renL ρ blk0.1, blk0.2) := by
  unfold renB at h
  obtain ⟨b, hb, rfl⟩ := Option.map_eq_some_iff.1 h
  exact ⟨b, hb, rfl⟩

def Alive (hp : Hp) (b : Nat) : Prop := ∃ blk, hp[b]? = some (some blk)

theorem reach_good (hp : Hp) : ∀ (n : Nat) (todo seen : List Nat), seen.Nodup → (∀ b ∈ seen, Alive hp b) → (reach hp n todo seen).Nodup ∧ (∀ b ∈ reach hp n todo seen, Alive hp b)
  | 0, _, seen, h1, h2 => ⟨h1, h2⟩
  | n + 1, [], seen, h1, h2 => ⟨h1, h2⟩
  | n + 1, b :: t, seen, h1, h2 => by
    unfold reach
    split
    · exact reach_good hp n t seen h1 h2
    · rename_i hc
      have hb : b ∉ seen := by simpa using hc
      split
      · rename_i blk hblk
        refine reach_good hp n _ _ ?_ ?_
        · rw [List.nodup_append]
          refine ⟨h1, by simp, fun a ha c hc e => ?_⟩
          simp at hc; subst hc; subst e; exact hb ha
        · intro c hc
          rcases List.mem_append.1 hc with hc | hc
          · exact h2 c hc
          · simp at hc; subst hc; exact ⟨blk, hblk⟩
      · exact reach_good hp n t seen h1 h2

structure FnTidy (hp : Hp) (r : Ret) : Prop where
  len : hp.length ≤ r.hp.length
  frame : ∀ b, b < hp.length → b ∉ r.wr → r.hp[b]? = hp[b]?
  wrb : ∀ b ∈ r.wr, b < hp.length
  alive : ∀ b, b < hp.length → Alive r.hp b → Alive hp b

def FnOK (P : Program) (f : FuncId) (vs : List V) (hp : Hp) (r : Ret) : Prop :=
  FnTidy hp r ∧ ∀ (I : Nat → Prop) (w : World) (μ : Mu) (vals : Array Value), V.RL P I μ w vs vals.toList → Pre P I μ w hp (List.range hp.length) r.hp.length → (∀ b g, μ b = some g → b < hp.length) →
    Calls P f vals w fun e w' => ∃ val μ' I', e = .returned val ∧ V.R P I' μ' w' r.v val ∧ Good P I I' μ μ' w w' hp r.hp (List.range hp.length) r.wr

def CallOK (P : Program) (callF : CallF) : Prop := ∀ f vs hp r, callF f vs hp = some r → FnOK P f vs hp r

theorem zipIdx_at {α β : Type} (l : List α) (f : α × Nat → β) (b : Nat) : ((l.zipIdx).map f)[b]? = (l[b]?).map fun x => f (x, b) := by
  simp [List.getElem?_map, List.getElem?_zipIdx]
  cases l[b]? <;> simp

theorem call_sound {callF : CallF} (hc : CallOK P callF) {f : FuncId} {vs : List V} {vals : Array Value} (h : evCall callF hp f vs = some out) (hv : V.RL P I μ w vs vals.toList) (pre : Pre P I μ w hp out.acc out.hp.length) :
    Calls P f vals w fun e w' => ∃ val μ' I', e = .returned val ∧ V.R P I' μ' w' out.v val ∧ Good P I I' μ μ' w w' hp out.hp out.acc out.wr := by
  unfold evCall at h
  simp only at h
  generalize hids : reach hp 100000 (V.refsL vs) [] = ids at h
  obtain ⟨hnd, hal⟩ := reach_good hp 100000 (V.refsL vs) [] (by simp) (by simp)
  rw [hids] at hnd hal
  split at h
  case h_2 => cases h
  case h_1 r hr =>
  cases h
  obtain ⟨ht, hok⟩ := hc _ _ _ _ hr
  generalize hsub : (ids.map fun b => renB (pos ids) (hp.getD b none)) = sub at hr ht hok
  have hsl : sub.length = ids.length := by rw [← hsub]; simp
  have hlt : ∀ b ∈ ids, b < hp.length := fun b hb => by obtain ⟨blk, h⟩ := hal b hb; exact at_lt h
  let μc : Mu := ⟨fun j => match ids[j]? with
    | some b => μ b
    | none => none, fun j => match ids[j]? with
    | some b => μ.ft b
    | none => []⟩
  have hμc : ∀ (j b : Nat), ids[j]? = some b → μc j = μ b := by intro j b h; simp [μc, h]
  have hμf : ∀ (j b : Nat), ids[j]? = some b → μc.ft j = μ.ft b := by intro j b h; simp [μc, h]
  have hμo : ∀ (j b : Nat), ids[j]? = some b → ∀ k, μc.own j k ↔ μ.own b k := by intro j b h k; simp [Mu.own, hμc j b h, hμf j b h]
  have hμn : ∀ j, ids.length ≤ j → μc j = none := by intro j h; simp [μc, List.getElem?_eq_none h]
  have hρ : ∀ b b' g, pos ids b = some b' → μ b = some g → μc b' = some g := by
    intro b b' g hb hg; rw [hμc b' b (pos_spec hb)]; exact hg
  have hsubinv : ∀ (j : Nat) (blk : Blk), sub[j]? = some (some blk) → ∃ b blk0, ids[j]? = some b ∧ hp[b]? = some (some blk0) ∧ blk = (V.renL (pos ids) blk0.1, blk0.2) := by
    intro j blk hj
    rw [← hsub, List.getElem?_map] at hj
    obtain ⟨b, hb, hj⟩ := Option.map_eq_some_iff.1 hj
    obtain ⟨blk0, hb0⟩ := hal b (List.mem_of_getElem? hb)
    simp only [List.getD_eq_getElem?_getD, hb0, Option.getD_some, renB, Option.map_some] at hj
    exact ⟨b, blk0, hb, hb0, (by cases hj; rfl)⟩
  have hpre : Pre P I μc w sub (List.range sub.length) r.hp.length := by
    refine ⟨pre.ilt, fun j hj blk hblk => ?_, fun j hj k hk b1 b2 g hne h1 h2 g1 g2 => ?_, fun j hj _ => hμn j (by omega)⟩
    · obtain ⟨b, blk0, hb, hb0, rfl⟩ := hsubinv j blk hblk
      exact (pre.holds b (List.mem_of_getElem? hb) blk0 hb0).ren hρ (fun g hg => by rw [hμc j b hb]; exact hg) (fun h => by rw [hμc j b hb]; exact h) (hμf j b hb)
    · obtain ⟨b, c0, hb, hb0, _⟩ := hsubinv j b1 h1
      obtain ⟨c, c1, hc, hc0, _⟩ := hsubinv k b2 h2
      refine pre.inj b (List.mem_of_getElem? hb) c (List.mem_of_getElem? hc) _ _ g (fun e => hne ?_) hb0 hc0 ((hμo j b hb g).1 g1) ((hμo k c hc g).1 g2)
      subst e
      have h1 := pos_of hnd hb
      rw [pos_of hnd hc] at h1
      cases h1; rfl
  have hdomc : ∀ b g, μc b = some g → b < sub.length := by
    intro j g hg
    rcases Nat.lt_or_ge j sub.length with h | h
    · exact h
    · rw [hμn j (by omega)] at hg; cases hg
  refine (hok I w μc vals (renL_sound hρ _ _ hv) hpre hdomc).mono ?_
  rintro e w' ⟨val, μc', I', rfl, hR, hG⟩
  have htop : (hp.length + (r.hp.length - ids.length)) = ((hp.zipIdx.map fun x => if (r.wr.filterMap fun j => ids[j]?).contains x.2 then renB (backTo ids hp.length) (((pos ids x.2).bind fun j => r.hp[j]?).getD none) else x.1) ++ (r.hp.drop ids.length).map (renB (backTo ids hp.length))).length := by simp
  let μ' : Mu := ⟨fun b => if b < hp.length then μ b else if b < hp.length + (r.hp.length - ids.length) then μc' (ids.length + (b - hp.length)) else μ b,
    fun b => if b < hp.length then match pos ids b with
      | some j => μc'.ft j
      | none => μ.ft b
    else if b < hp.length + (r.hp.length - ids.length) then μc'.ft (ids.length + (b - hp.length)) else μ.ft b⟩
  have hμ'o : ∀ b, b < hp.length → μ' b = μ b := fun b hb => by simp [μ', hb]
  have hlenr : ids.length ≤ r.hp.length := by have := ht.len; omega
  have hμ'n : ∀ k, ids.length + k < r.hp.length → μ' (hp.length + k) = μc' (ids.length + k) ∧ μ'.ft (hp.length + k) = μc'.ft (ids.length + k) := fun k hk => by
    have h1 : ¬ hp.length + k < hp.length := by omega
    have h2 : hp.length + k < hp.length + (r.hp.length - ids.length) := by omega
    simp only [μ', h1, h2, if_true, if_false]
    rw [show ids.length + (hp.length + k - hp.length) = ids.length + k by omega]
    exact ⟨rfl, rfl⟩
  have hftj : ∀ (j b : Nat), ids[j]? = some b → μ'.ft b = μc'.ft j := by
    intro j b hj
    have hb := hlt b (List.mem_of_getElem? hj)
    simp only [μ', hb, if_true, pos_of hnd hj]
  have hftn : ∀ b, b < hp.length → pos ids b = none → μ'.ft b = μ.ft b := by
    intro b hb hp
    simp only [μ', hb, if_true, hp]
  have hdomc' : ∀ j g, μc' j = some g → j < r.hp.length := by
    intro j g hg
    rcases hG.dom j g hg with h | ⟨_, h⟩
    · have := hdomc j g h; have := ht.len; omega
    · exact h
  have hold : ∀ (j b : Nat), ids[j]? = some b → ∀ g, μc' j = some g → μ b = some g := by
    intro j b hj g hg
    have hjl : j < ids.length := (List.getElem?_eq_some_iff.1 hj).1
    rcases hG.dom j g hg with h | ⟨h, _⟩
    · rwa [hμc j b hj] at h
    · omega
  have hle : MuLe μ μ' := by
    intro b g hb
    rcases Nat.lt_or_ge b hp.length with h | h
    · rw [hμ'o b h]; exact hb
    · rcases Nat.lt_or_ge b (hp.length + (r.hp.length - ids.length)) with h2 | h2
      · rw [pre.fresh b h (by rw [← htop]; exact h2)] at hb; cases hb
      · have h1 : ¬ b < hp.length := by omega
        have h3 : ¬ b < hp.length + (r.hp.length - ids.length) := by omega
        simp only [μ', h1, h3, if_false]; exact hb
  have hback : ∀ j b' g, backTo ids hp.length j = some b' → μc' j = some g → μ' b' = some g := by
    intro j b' g hj hg
    unfold backTo at hj
    split at hj
    · have := hold j b' hj g hg
      rw [hμ'o b' (hlt b' (List.mem_of_getElem? hj))]; exact this
    · rename_i hjl
      cases hj
      have := hdomc' j g hg
      rw [(hμ'n _ (by omega)).1]
      rw [show ids.length + (j - ids.length) = j by omega]; exact hg
  have hwr : ∀ j, j ∈ r.wr → ∃ b, ids[j]? = some b ∧ b ∈ r.wr.filterMap (fun j => ids[j]?) ∧ (∃ blk, hp[b]? = some (some blk)) ∧ ∀ k, μc.own j k ↔ μ.own b k := by
    intro j hj
    have hjl := ht.wrb j hj
    have hjb : ids[j]? = some (ids[j]'(by omega)) := List.getElem?_eq_getElem (by omega)
    generalize ids[j]'(by omega) = b at hjb
    exact ⟨b, hjb, List.mem_filterMap.2 ⟨j, hj, hjb⟩, hal b (List.mem_of_getElem? hjb), hμo j b hjb⟩
  have hX : Evo I w w' (fun k => ∃ b ∈ r.wr.filterMap (fun j => ids[j]?), μ.own b k) := hG.evo.mono fun k hk => by
    obtain ⟨j, hj, hk⟩ := hk
    obtain ⟨b, _, hbw, _, hbo⟩ := hwr j hj
    exact ⟨b, hbw, (hbo k).1 hk⟩
  generalize hhp' : ((hp.zipIdx.map fun x => if (r.wr.filterMap fun j => ids[j]?).contains x.2 then renB (backTo ids hp.length) (((pos ids x.2).bind fun j => r.hp[j]?).getD none) else x.1) ++ (r.hp.drop ids.length).map (renB (backTo ids hp.length))) = hp' at htop pre ⊢
  have hA : ∀ b blk, hp'[b]? = some (some blk) → (b < hp.length ∧ b ∉ r.wr.filterMap (fun j => ids[j]?) ∧ hp[b]? = some (some blk)) ∨
      (∃ j blk0, r.hp[j]? = some (some blk0) ∧ blk = (V.renL (backTo ids hp.length) blk0.1, blk0.2) ∧ (∀ g, μ' b = some g ↔ μc' j = some g) ∧ μ'.ft b = μc'.ft j ∧ ((b < hp.length ∧ ids[j]? = some b ∧ j ∈ r.wr) ∨ (hp.length ≤ b ∧ j = ids.length + (b - hp.length)))) := by
    intro b blk hb
    rw [← hhp', List.getElem?_append] at hb
    simp only [List.length_map, List.length_zipIdx] at hb
    split at hb
    · rename_i hbl
      rw [zipIdx_at] at hb
      obtain ⟨x, hx, hb⟩ := Option.map_eq_some_iff.1 hb
      simp only at hb
      split at hb
      · rename_i hw
        have hw' : b ∈ r.wr.filterMap fun j => ids[j]? := by simpa using hw
        obtain ⟨j, hj, hjb⟩ := List.mem_filterMap.1 hw'
        rw [pos_of hnd hjb] at hb
        obtain ⟨blk0, h0, rfl⟩ := renB_some hb
        have h1 : r.hp[j]? = some (some blk0) := by
          simp only [Option.bind_some] at h0
          cases hrj : r.hp[j]? with
          | none => rw [hrj] at h0; cases h0
          | some y => rw [hrj] at h0; simp at h0; rw [h0]
        refine .inr ⟨j, blk0, h1, rfl, fun g => ⟨fun hg => ?_, fun hg => ?_⟩, hftj j b hjb, .inl ⟨hbl, hjb, hj⟩⟩
        · rw [hμ'o b hbl, ← hμc j b hjb] at hg; exact hG.le j g hg
        · rw [hμ'o b hbl]; exact hold j b hjb g hg
      · rename_i hw
        have hw' : b ∉ r.wr.filterMap fun j => ids[j]? := by simpa using hw
        exact .inl ⟨hbl, hw', by rw [hx, hb]⟩
    · rename_i hbl
      rw [List.getElem?_map, List.getElem?_drop] at hb
      obtain ⟨x, hx, hb⟩ := Option.map_eq_some_iff.1 hb
      obtain ⟨blk0, rfl, rfl⟩ := renB_some hb
      have hlt' := (List.getElem?_eq_some_iff.1 hx).1
      have e := hμ'n (b - hp.length) hlt'
      rw [show hp.length + (b - hp.length) = b by omega] at e
      exact .inr ⟨_, blk0, hx, rfl, fun g => by rw [e.1], e.2, .inr ⟨by omega, rfl⟩⟩
  have hjr : ∀ j, j < ids.length → j ∈ List.range sub.length := fun j hj => by simp; omega
  have hin : ∀ (b j : Nat), ((b < hp.length ∧ ids[j]? = some b ∧ j ∈ r.wr) ∨ (hp.length ≤ b ∧ j = ids.length + (b - hp.length))) → (j ∈ List.range sub.length ∨ sub.length ≤ j) := by
    rintro b j (⟨_, h, _⟩ | ⟨_, h⟩)
    · exact .inl (hjr j (List.getElem?_eq_some_iff.1 h).1)
    · exact .inr (by omega)
  have hin2 : ∀ (b j : Nat), ((b < hp.length ∧ ids[j]? = some b ∧ j ∈ r.wr) ∨ (hp.length ≤ b ∧ j = ids.length + (b - hp.length))) → (sub.length ≤ j ∨ j ∈ r.wr) := by
    rintro b j (⟨_, _, h⟩ | ⟨_, h⟩)
    · exact .inr h
    · exact .inl (by omega)
  have hown : ∀ (b j k : Nat), (∀ g, μ' b = some g ↔ μc' j = some g) → μ'.ft b = μc'.ft j → (μ'.own b k ↔ μc'.own j k) := by
    intro b j k h1 h2; simp only [Mu.own, h1, h2]
  have hftu : ∀ b, b < hp.length → b ∉ r.wr.filterMap (fun j => ids[j]?) → μ'.ft b = μ.ft b := by
    intro b hb hbw
    cases hp : pos ids b with
    | none => exact hftn b hb hp
    | some j =>
      have hj := pos_spec hp
      have hjl : j < ids.length := (List.getElem?_eq_some_iff.1 hj).1
      rw [hftj j b hj, hG.ftd j (fun hjw => hbw (List.mem_filterMap.2 ⟨j, hjw, hj⟩)) (by omega), hμf j b hj]
  have hownu : ∀ b k, b < hp.length → b ∉ r.wr.filterMap (fun j => ids[j]?) → μ'.own b k → μ.own b k := by
    intro b k hb hbw hk
    rcases hk with hk | hk
    · rw [hμ'o b hb] at hk; exact .inl hk
    · rw [hftu b hb hbw] at hk; exact .inr hk
  have hnimm : ∀ b blk g, b ∈ ids → b ∉ r.wr.filterMap (fun j => ids[j]?) → hp[b]? = some (some blk) → μ.own b g → ¬ I' g := by
    intro b blk g hbi hbw hb0 hg hI
    have hh := pre.holds b hbi blk hb0
    rcases hG.igrow g hI with h | ⟨h, _⟩ | ⟨c, hcw, hcg, _⟩
    · exact hh.nimm hg h
    · have := hh.lt hg; omega
    · obtain ⟨d, hdj, hdw, ⟨_, hda⟩, hdo⟩ := hwr c hcw
      exact pre.inj b hbi d (List.mem_of_getElem? hdj) _ _ g (by rintro rfl; exact hbw hdw) hb0 hda hg ((hdo g).1 hcg)
  refine ⟨val, μ', I', rfl, ren_sound hback _ _ hR, ⟨hG.isub, fun k hk => ?_, hX, hle, fun b g hb => ?_, fun b hbw hbn => ?_, fun b hb blk hblk => ?_, fun b hb blk hblk g hg => ?_, fun b c b1 b2 g hne hb hc h1 h2 g1 g2 => ?_⟩⟩
  · rcases hG.igrow k hk with h | h | ⟨c, hcw, hcg, _⟩
    · exact .inl h
    · exact .inr (.inl h)
    · obtain ⟨d, _, hdw, hda, hdo⟩ := hwr c hcw
      exact .inr (.inr ⟨d, hdw, (hdo k).1 hcg, hda⟩)
  · rcases Nat.lt_or_ge b hp.length with h | h
    · rw [hμ'o b h] at hb; exact .inl hb
    · rcases Nat.lt_or_ge b (hp.length + (r.hp.length - ids.length)) with h2 | h2
      · exact .inr ⟨h, by rw [← htop]; exact h2⟩
      · have h1 : ¬ b < hp.length := by omega
        have h3 : ¬ b < hp.length + (r.hp.length - ids.length) := by omega
        simp only [μ', h1, h3, if_false] at hb; exact .inl hb
  · rcases Nat.lt_or_ge b hp.length with h | h
    · exact hftu b h hbw
    · have h1 : ¬ b < hp.length := by omega
      have h3 : ¬ b < hp.length + (r.hp.length - ids.length) := by rw [htop]; intro h4; exact hbn ⟨h, h4⟩
      simp only [μ', h1, h3, if_false]
  · rcases hA b blk hblk with ⟨hbl, hnw, h0⟩ | ⟨j, blk0, hj, rfl, hm, hf, hw⟩
    · have hbi : b ∈ ids := by rcases hb with hb | hb; exact hb; omega
      refine (pre.holds b hbi blk h0).keep hX hG.isub hle (fun h => by rw [hμ'o b hbl]; exact h) (hftu b hbl hnw) (fun g hg hx => ?_) (fun g hg => hnimm b blk g hbi hnw h0 hg)
      obtain ⟨c, hc, hcg⟩ := hx
      obtain ⟨j, _, hjc⟩ := List.mem_filterMap.1 hc
      have hci : c ∈ ids := List.mem_of_getElem? hjc
      obtain ⟨blk', hc'⟩ := hal c hci
      exact pre.inj b hbi c hci _ _ g (by rintro rfl; exact hnw hc) h0 hc' hg hcg
    · exact (hG.holds j (hin b j hw) blk0 hj).ren hback (fun g hg => (hm g).2 hg) (fun h => by
        cases hb' : μ' b with
        | none => rfl
        | some g => rw [(hm g).1 hb'] at h; cases h) hf
  · rcases hA b blk hblk with ⟨hbl, hnw, _⟩ | ⟨j, blk0, hj, rfl, hm, hf, hw⟩
    · rcases hb with hb | hb
      · omega
      · exact absurd hb hnw
    · rcases hG.prov j (hin2 b j hw) blk0 hj g ((hown b j g hm hf).1 hg) with h | ⟨c, hcw, hcg, _⟩
      · exact .inl h
      · obtain ⟨d, _, hdw, hda, hdo⟩ := hwr c hcw
        exact .inr ⟨d, hdw, (hdo g).1 hcg, hda⟩
  · have one : ∀ b c b1 b2, b ≠ c → (b ∈ ids ∨ hp.length ≤ b) → b < hp.length → b ∉ r.wr.filterMap (fun j => ids[j]?) → hp[b]? = some (some b1) → (∃ j bj, r.hp[j]? = some (some bj) ∧ b2 = (V.renL (backTo ids hp.length) bj.1, bj.2) ∧ (∀ g, μ' c = some g ↔ μc' j = some g) ∧ μ'.ft c = μc'.ft j ∧ ((c < hp.length ∧ ids[j]? = some c ∧ j ∈ r.wr) ∨ (hp.length ≤ c ∧ j = ids.length + (c - hp.length)))) → μ'.own b g → μ'.own c g → False := by
      rintro b c b1 b2 hne hb hbl hbw hb0 ⟨j, bj, hj, _, hm, hf, hw⟩ g1 g2
      have hbi : b ∈ ids := by rcases hb with hb | hb; exact hb; omega
      have g1' := hownu b g hbl hbw g1
      rcases hG.prov j (hin2 c j hw) bj hj g ((hown c j g hm hf).1 g2) with h | ⟨d, hdw, hdg, _⟩
      · have := (pre.holds b hbi _ hb0).lt g1'; omega
      · obtain ⟨q, hqj, hqw, ⟨_, hq0⟩, hqo⟩ := hwr d hdw
        exact pre.inj b hbi q (List.mem_of_getElem? hqj) _ _ g (by rintro rfl; exact hbw hqw) hb0 hq0 g1' ((hqo g).1 hdg)
    rcases hA b b1 h1 with ⟨hbl, hbw, hb0⟩ | hb1
    · rcases hA c b2 h2 with ⟨hcl, hcw, hc0⟩ | hc1
      · have hbi : b ∈ ids := by rcases hb with hb | hb; exact hb; omega
        have hci : c ∈ ids := by rcases hc with hc | hc; exact hc; omega
        exact pre.inj b hbi c hci _ _ g hne hb0 hc0 (hownu b g hbl hbw g1) (hownu c g hcl hcw g2)
      · exact one b c b1 b2 hne hb hbl hbw hb0 hc1 g1 g2
    · rcases hA c b2 h2 with ⟨hcl, hcw, hc0⟩ | hc1
      · exact one c b b2 b1 (Ne.symm hne) hc hcl hcw hc0 hb1 g2 g1
      · obtain ⟨j, bj, hj, _, hm1, hf1, hw1⟩ := hb1
        obtain ⟨k, bk, hk, _, hm2, hf2, hw2⟩ := hc1
        refine hG.inj j k _ _ g (fun e => hne ?_) (hin b j hw1) (hin c k hw2) hj hk ((hown b j g hm1 hf1).1 g1) ((hown c k g hm2 hf2).1 g2)
        subst e
        rcases hw1 with ⟨_, h3, _⟩ | ⟨_, h3⟩ <;> rcases hw2 with ⟨_, h4, _⟩ | ⟨_, h4⟩
        · rw [h3] at h4; cases h4; rfl
        · have := (List.getElem?_eq_some_iff.1 h3).1; omega
        · have := (List.getElem?_eq_some_iff.1 h4).1; omega
        · omega

theorem call_tidy {callF : CallF} (hc : CallOK P callF) {f : FuncId} {vs : List V} (h : evCall callF hp f vs = some out) : Tidy hp out.hp out.acc out.wr := by
  unfold evCall at h
  simp only at h
  generalize hids : reach hp 100000 (V.refsL vs) [] = ids at h
  obtain ⟨hnd, hal⟩ := reach_good hp 100000 (V.refsL vs) [] (by simp) (by simp)
  rw [hids] at hnd hal
  split at h
  case h_2 => cases h
  case h_1 r hr =>
  cases h
  obtain ⟨ht, _⟩ := hc _ _ _ _ hr
  have hlt : ∀ b ∈ ids, b < hp.length := fun b hb => by obtain ⟨blk, h⟩ := hal b hb; exact at_lt h
  refine ⟨by simp, fun b hb hn => ?_, fun b hb => ?_, hlt, fun b hb => ?_⟩
  · rw [List.getElem?_append_left (by simpa using hb), zipIdx_at, List.getElem?_eq_getElem hb]
    simp only [Option.map_some]
    rw [if_neg (by simpa using hn)]
  · obtain ⟨j, _, hj⟩ := List.mem_filterMap.1 hb; exact List.mem_of_getElem? hj
  · obtain ⟨j, _, hj⟩ := List.mem_filterMap.1 hb; exact hal b (List.mem_of_getElem? hj)

end
end Go.Proofs.YtfncaghjfgnnhaaGreatDoor

namespace Go.Proofs.YtfncaghjfgnnhaaGreatDoor
open Go.RowKit

section
variable {P : Program} {I : Nat → Prop} {μ μ' : Mu} {w w' : World} {hp : Hp} {out : Out}

def Named (P : Program) : Prop := ∀ (f : FuncId) (fn : Func), P.funcs[f]? = some fn → fn.name ≠ "runtime.NumGoroutine"
def Bodied (P : Program) (callF : CallF) : Prop := ∀ f vs hp r, callF f vs hp = some r → ∃ fn, P.funcs[f]? = some fn ∧ fn.body.isSome = true

theorem op_wp {callF : CallF} (hn : Named P) (hb : Bodied P callF) (hc : CallOK P callF) {o : Oper} {e : Operand → V} {a : Act} {K : Act → World → Prop} {Q : Exit → Act → World → Prop} (h : evOp P callF e hp o.op = some out)
    (hops : ∀ x ∈ o.op.operands, V.R P I μ w (e x) (a.eval x)) (pre : Pre P I μ w hp out.acc out.hp.length)
    (hK : ∀ val w' μ' I', V.R P I' μ' w' out.v val → Good P I I' μ μ' w w' hp out.hp out.acc out.wr → K (a.put o.dst val) w') : o.wp P a w K Q := by
  unfold evOp at h
  split at h
  · rename_i f args ts hop
    rw [hop] at hops
    split at h
    case h_2 => cases h
    case h_1 g cap hf =>
    have hfv := hops f (by simp [Op.operands, Call.operands])
    rw [hf] at hfv
    simp only [V.R] at hfv
    obtain ⟨vs, hfv, hcap⟩ := hfv
    have hargs : V.RL P I μ w (args.toList.map e ++ cap) ((args.map a.eval) ++ vs).toList := by
      rw [Array.toList_append, Array.toList_map]
      exact (RL_map fun x hx => hops x (by simp only [Op.operands, Call.operands]; exact Array.mem_append.2 (.inr (by simpa using hx)))).append hcap
    have hbody : ∃ fn, P.funcs[g]? = some fn ∧ fn.body.isSome = true := by
      unfold evCall at h
      simp only at h
      split at h
      · rename_i r hr; exact hb _ _ _ _ hr
      · cases h
    obtain ⟨fn, hfn, hbd⟩ := hbody
    have hrun : (execOp a.eval o).run P w = .ok (.enter g ((args.map a.eval) ++ vs)) w := by
      have hbd' : fn.body.isNone = false := by cases hq : fn.body <;> simp_all
      have hname : (fn.name == "runtime.NumGoroutine") = false := by simpa using hn g fn hfn
      simp only [execOp, hop, resolve, hfv, Deferred.ofValue, Sem.run_bind, Sem.run_pure, Result.andThen_ok, invoke, callFunc, run_program, hfn, hname, hbd', Bool.false_eq_true, if_false, Array.empty_append]
    unfold Oper.wp
    rw [hrun]
    refine (call_sound hc h hargs pre).mono ?_
    rintro e' w' ⟨val, μ', I', rfl, hR, hG⟩
    exact hK val w' μ' I' hR hG
  · rename_i x name args ts hop
    rw [hop] at hops
    split at h
    case h_2 => cases h
    case h_1 t v hx =>
    split at h
    case h_2 => cases h
    case h_1 g hmt =>
    have hxv := hops x (by simp [Op.operands, Call.operands])
    rw [hx] at hxv
    simp only [V.R, V.RL] at hxv
    obtain ⟨vs, hxv, u, us, hvs, hvu, rfl⟩ := hxv
    obtain rfl : vs = #[u] := by cases vs; simp_all
    have hargs : V.RL P I μ w (v :: args.toList.map e) (#[u] ++ args.map a.eval).toList := by
      rw [Array.toList_append, Array.toList_map]
      simp only [V.RL, List.cons_append, List.nil_append]
      exact ⟨u, _, rfl, hvu, RL_map fun y hy => hops y (by simp only [Op.operands, Call.operands]; exact Array.mem_append.2 (.inr (by simpa using hy)))⟩
    have hbody : ∃ fn, P.funcs[g]? = some fn ∧ fn.body.isSome = true := by
      unfold evCall at h
      simp only at h
      split at h
      · rename_i r hr; exact hb _ _ _ _ hr
      · cases h
    have hrun : (execOp a.eval o).run P w = .ok (.enter g (#[u] ++ args.map a.eval)) w := by
      have hm := mtab_ok hmt u (args.map a.eval) w
      have e0 : (#[Value.iface t u] ++ args.map a.eval)[0]? = some (.iface t u) := by
        rw [Array.getElem?_append]; simp
      have e1 : (#[Value.iface t u] ++ args.map a.eval).extract 1 (#[Value.iface t u] ++ args.map a.eval).size = args.map a.eval := by
        apply Array.ext'
        simp only [Array.toList_extract, List.extract_eq_take_drop, Array.toList_append, Array.toList_map, List.cons_append, List.nil_append, List.drop_succ_cons, List.drop_zero]
        rw [List.take_of_length_le (by simp)]
      have e2 : BK.mk (.iface t) #[u] = .iface t u := rfl
      simp only [execOp, hop, resolve, hxv, e2, Sem.run_bind, Sem.run_pure, Result.andThen_ok, invoke, e0, e1]
      exact hm
    unfold Oper.wp
    rw [hrun]
    refine (call_sound hc h hargs pre).mono ?_
    rintro e' w' ⟨val, μ', I', rfl, hR, hG⟩
    exact hK val w' μ' I' hR hG
  · split at h
    · rename_i hpl
      cases h
      obtain ⟨nx, val, w', μ', h1, h2, h3, h4⟩ := plain_sound hpl hops pre
      unfold Oper.wp
      rw [h1]
      rcases h2 with rfl | ⟨rfl, rfl⟩
      · exact hK _ _ _ _ h3 h4
      · exact hK _ _ _ _ h3 h4
    · obtain ⟨val, w', μ', h1, h3, h4⟩ := more_sound (fun _ => rfl) h hops pre
      unfold Oper.wp
      rw [h1]
      exact hK _ _ _ _ h3 h4

theorem op_tidy {callF : CallF} (hc : CallOK P callF) {o : Op} {e : Operand → V} (h : evOp P callF e hp o = some out) : Tidy hp out.hp out.acc out.wr := by
  unfold evOp at h
  split at h
  · split at h
    · exact call_tidy hc h
    · cases h
  · split at h
    · split at h
      · exact call_tidy hc h
      · cases h
    · cases h
  · split at h
    · rename_i hpl; cases h; exact plain_tidy hpl
    · exact more_tidy h

structure OpOK (P : Program) (e : Operand → V) (hp : Hp) (o : Op) (out : Out) : Prop where
  tidy : Tidy hp out.hp out.acc out.wr
  wp : ∀ {I : Nat → Prop} {μ : Mu} {w : World} {oper : Oper} {a : Act} {K : Act → World → Prop} {Q : Exit → Act → World → Prop}, oper.op = o →
    (∀ x ∈ o.operands, V.R P I μ w (e x) (a.eval x)) → Pre P I μ w hp out.acc out.hp.length →
    (∀ val w' μ' I', V.R P I' μ' w' out.v val → Good P I I' μ μ' w w' hp out.hp out.acc out.wr → K (a.put oper.dst val) w') → oper.wp P a w K Q
theorem evOp_ok {callF : CallF} (hn : Named P) (hb : Bodied P callF) (hc : CallOK P callF) {o : Op} {e : Operand → V} {hp : Hp} {out : Out} (h : evOp P callF e hp o = some out) : OpOK P e hp o out :=
  ⟨op_tidy hc h, fun ho hops pre hK => op_wp hn hb hc (by rw [ho]; exact h) (by rw [ho]; exact hops) pre hK⟩

def lw {α : Type} (touch : Nat → Bool) (can : Nat → α) (L : Nat → Bool) : Nat → α
  | 0 => can 0
  | n + 1 => if L n && touch n then can (n + 1) else lw touch can L n

theorem lw_full {α : Type} {touch : Nat → Bool} {can : Nat → α} {L : Nat → Bool} : ∀ {j : Nat}, (∀ i, i < j → touch i = true → L i = true) → (∀ i, i < j → touch i = false → can (i + 1) = can i) → lw touch can L j = can j
  | 0, _, _ => rfl
  | j + 1, h, k => by
    unfold lw
    cases ht : touch j with
    | true => simp [h j (by omega) ht]
    | false =>
      simp only [Bool.and_false, Bool.false_eq_true, if_false, k j (by omega) ht]
      exact lw_full (fun i hi => h i (by omega)) (fun i hi => k i (by omega))
theorem lw_skip {α : Type} {touch : Nat → Bool} {can : Nat → α} {L : Nat → Bool} {j : Nat} : ∀ {n : Nat}, j ≤ n → (∀ i, j ≤ i → i < n → touch i = true → L i = false) → lw touch can L n = lw touch can L j
  | 0, h, _ => by rw [show j = 0 by omega]
  | n + 1, h, k => by
    by_cases e : j = n + 1
    · rw [e]
    · rw [lw]
      have : (L n && touch n) = false := by
        cases ht : touch n with
        | true => simp [k n (by omega) (by omega) ht]
        | false => simp
      rw [this, if_neg (by simp), lw_skip (by omega) fun i h1 h2 => k i h1 (by omega)]
def addL (L : Nat → Bool) (j : Nat) : Nat → Bool := fun i => i == j || L i
theorem lw_add_ne {α : Type} {touch : Nat → Bool} {can : Nat → α} {L : Nat → Bool} {j : Nat} (h : touch j = false) : ∀ n, lw touch can (addL L j) n = lw touch can L n
  | 0 => rfl
  | n + 1 => by
    unfold lw
    rw [lw_add_ne h n]
    by_cases e : n = j
    · subst e; simp [h]
    · simp [addL, e]
theorem lw_add_eq {α : Type} {touch : Nat → Bool} {can : Nat → α} {L : Nat → Bool} {j n : Nat} (hj : j < n) (h : touch j = true) (k : ∀ i, j < i → i < n → touch i = true → L i = false) : lw touch can (addL L j) n = can (j + 1) := by
  rw [lw_skip (j := j + 1) (by omega) (fun i h1 h2 h3 => by simp only [addL]; rw [k i (by omega) h2 h3]; simp; omega)]
  unfold lw
  simp [addL, h]

end

def StepR (P : Program) (ops : Array Oper) (s : St) (o : Oper) (s' : St) (acc wr : List Nat) : Prop :=
  (wantedV ops s.tm o = some true ∧ ∃ out, OpOK P (evalV s.tm) s.hp o.op out ∧ s' = ⟨putV s.tm o.dst out.v, out.hp, s.wr ++ out.wr⟩ ∧ acc = out.acc ∧ wr = out.wr) ∨
  (wantedV ops s.tm o = some false ∧ s' = ⟨putV s.tm o.dst (.lit undef), s.hp, s.wr⟩ ∧ acc = [] ∧ wr = [])
structure Run (P : Program) (ops : Array Oper) (sn : Nat → St) (ac wr : Nat → List Nat) : Prop where
  step : ∀ i o, ops[i]? = some o → StepR P ops (sn i) o (sn (i + 1)) (ac i) (wr i)

section
variable {P : Program} {ops : Array Oper} {sn : Nat → St} {ac wr : Nat → List Nat}

def touchB (sn : Nat → St) (wr : Nat → List Nat) (b i : Nat) : Bool := (wr i).contains b || (decide ((sn i).hp.length ≤ b) && decide (b < (sn (i + 1)).hp.length))
def touchT (ops : Array Oper) (t i : Nat) : Bool := ((ops[i]?).bind (·.dst)) == some t

theorem step_parts {s s' : St} {o : Oper} {acc wrs : List Nat} (h : StepR P ops s o s' acc wrs) :
    Tidy s.hp s'.hp acc wrs ∧ s'.wr = s.wr ++ wrs ∧ ∃ v, s'.tm = putV s.tm o.dst v := by
  rcases h with ⟨_, out, ho, rfl, rfl, rfl⟩ | ⟨_, rfl, rfl, rfl⟩
  · exact ⟨ho.tidy, rfl, _, rfl⟩
  · exact ⟨.same _ (by simp), by simp, _, rfl⟩

theorem Run.parts (hr : Run P ops sn ac wr) (i : Nat) (o : Oper) (ho : ops[i]? = some o) : Tidy (sn i).hp (sn (i + 1)).hp (ac i) (wr i) ∧ (sn (i + 1)).wr = (sn i).wr ++ wr i ∧ ∃ v, (sn (i + 1)).tm = putV (sn i).tm o.dst v :=
  step_parts (hr.step i o ho)

theorem putV_ne {tm : Tm} {d : Option Tmp} {v : V} {t : Nat} (h : d ≠ some t) : (putV tm d v).get t = tm.get t := by
  cases d with
  | none => rfl
  | some d => exact tm.get_ne v (fun e => h (by rw [e]))
theorem putV_len (tm : Tm) (d : Option Tmp) (v : V) : (putV tm d v).n = tm.n := by
  cases d <;> rfl

theorem lens (hr : Run P ops sn ac wr) : ∀ {i j : Nat}, i ≤ j → j ≤ ops.size → (sn i).hp.length ≤ (sn j).hp.length := by
  intro i j h
  induction j with
  | zero => intro _; rw [show i = 0 by omega]; exact Nat.le_refl _
  | succ j ih =>
    intro hj
    by_cases e : i = j + 1
    · rw [e]; exact Nat.le_refl _
    · exact Nat.le_trans (ih (by omega) (by omega)) (hr.parts j _ (Array.getElem?_eq_getElem (show j < ops.size by omega))).1.len

end
end Go.Proofs.YtfncaghjfgnnhaaGreatDoor

namespace Go.Proofs.YtfncaghjfgnnhaaGreatDoor
open Go.RowKit

section
variable {P : Program} {ops : Array Oper} {sn : Nat → St} {ac wr : Nat → List Nat}

def tmc (ops : Array Oper) (sn : Nat → St) (L : Nat → Bool) (t : Nat) : V := lw (touchT ops t) (fun i => (sn i).tm.get t) L ops.size
def hc (ops : Array Oper) (sn : Nat → St) (wr : Nat → List Nat) (L : Nat → Bool) (b : Nat) : Option (Option Blk) := lw (touchB sn wr b) (fun i => (sn i).hp[b]?) L ops.size

structure RI (P : Program) (ops : Array Oper) (sn : Nat → St) (wr : Nat → List Nat) (W : List Nat) (I0 : Nat → Prop) (μ0 : Mu) (w0 : World) (L : Nat → Bool) (a : Act) (w : World) (Im : Nat → Prop) (μ : Mu) : Prop where
  tm : ∀ t, V.R P Im μ w (tmc ops sn L t) (a.tmps.getD t undef)
  size : a.tmps.size = (sn 0).tm.n
  defers : a.defers = []
  holds : ∀ b blk, hc ops sn wr L b = some (some blk) → Holds P Im μ w b blk
  inj : ∀ b c blk blk' g, b ≠ c → hc ops sn wr L b = some (some blk) → hc ops sn wr L c = some (some blk') → μ.own b g → μ.own c g → False
  dom : ∀ b g, μ b = some g → μ0 b = some g ∨ ∃ i, L i = true ∧ i < ops.size ∧ (sn i).hp.length ≤ b ∧ b < (sn (i + 1)).hp.length
  ftd : ∀ b, b ∉ W → b < (sn 0).hp.length → μ.ft b = μ0.ft b
  evo : Evo I0 w0 w (fun k => ∃ b ∈ W, μ0.own b k ∧ Alive (sn 0).hp b)
  le : MuLe μ0 μ
  prov : ∀ b, ((sn 0).hp.length ≤ b ∨ b ∈ W) → ∀ blk, hc ops sn wr L b = some (some blk) → ∀ g, μ.own b g → w0.heap.size ≤ g ∨ ∃ c ∈ W, μ0.own c g ∧ Alive (sn 0).hp c
  isub : Sub I0 Im
  igrow : ∀ k, Im k → I0 k ∨ w0.heap.size ≤ k ∨ ∃ c ∈ W, μ0.own c k ∧ Alive (sn 0).hp c
  ilt : ILt P Im w

theorem apart_rev {x y : Oper} (h : x.apart ops y = true) : (∀ d, x.dst = some d → d ∉ y.looksAt ops) ∧ (∀ d, x.dst = some d → y.dst ≠ some d) ∧ (∀ d, y.dst = some d → d ∉ x.looksAt ops) := Oper.apart_spec h

theorem touch_back (hr : Run P ops sn ac wr) {b i : Nat} {o : Oper} (ho : ops[i]? = some o) (h : touchB sn wr b i = false) : (sn (i + 1)).hp[b]? = (sn i).hp[b]? := by
  obtain ⟨ht, _, _⟩ := hr.parts i o ho
  simp only [touchB, Bool.or_eq_false_iff, Bool.and_eq_false_iff, decide_eq_false_iff_not] at h
  rcases Nat.lt_or_ge b (sn i).hp.length with hb | hb
  · exact ht.frame b hb (by simpa using h.1)
  · rw [List.getElem?_eq_none hb, List.getElem?_eq_none (by omega)]

theorem ri_step (hn : Named P) (hr : Run P ops sn ac wr) {W : List Nat} {I0 Im : Nat → Prop} {μ0 : Mu} {w0 : World} {L : Nat → Bool} {a : Act} {w : World} {μ : Mu} {j : Nat} {o : Oper}
    (hW : ∀ i, i < ops.size → ∀ b ∈ wr i, b ∈ W) (hdom0 : ∀ b g, μ0 b = some g → b < (sn 0).hp.length)
    (ho : ops[j]? = some o) (hj : L j = false)
    (h1 : ∀ i oi, i < j → ops[i]? = some oi → L i = false → oi.apart ops o = true ∧ (∀ b ∈ ac j, touchB sn wr b i = false) ∧ (∀ b ∈ wr j, b ∉ ac i))
    (h2 : ∀ i oi, j < i → ops[i]? = some oi → L i = true → o.apart ops oi = true ∧ (∀ b ∈ ac i, touchB sn wr b j = false) ∧ (∀ b ∈ wr i, b ∉ ac j))
    (I : RI P ops sn wr W I0 μ0 w0 L a w Im μ) {K : Act → World → Prop} {Q : Exit → Act → World → Prop}
    (hK : ∀ a' w' μ' Im', RI P ops sn wr W I0 μ0 w0 (addL L j) a' w' Im' μ' → K a' w') : wpOp P ops Q j K a w := by
  have hjs : j < ops.size := (Array.getElem?_eq_some_iff.1 ho).1
  have hstep := hr.step j o ho
  obtain ⟨htidy, _, vt, htm⟩ := step_parts hstep
  have hat : ∀ i, i < ops.size → ∃ oi, ops[i]? = some oi := fun i hi => ⟨_, Array.getElem?_eq_getElem hi⟩
  have hTd : ∀ i, i < ops.size → Tidy (sn i).hp (sn (i + 1)).hp (ac i) (wr i) := fun i hi => by
    obtain ⟨oi, hoi⟩ := hat i hi
    exact (hr.parts i oi hoi).1
  have hmono : ∀ i k, i ≤ k → k ≤ ops.size → (sn i).hp.length ≤ (sn k).hp.length := fun i k => lens hr
  have hlook : ∀ t, t ∈ o.looksAt ops → tmc ops sn L t = (sn j).tm.get t := by
    intro t ht
    unfold tmc
    rw [lw_skip (j := j) (by omega) (fun i hi hin htt => ?_)]
    · refine lw_full (fun i hi htt => ?_) (fun i hi htt => ?_)
      · cases hL : L i with
        | true => rfl
        | false =>
          obtain ⟨oi, hoi⟩ := hat i (by omega)
          have hd : oi.dst = some t := by simpa [touchT, hoi] using htt
          exact absurd ht ((Oper.apart_spec (h1 i oi hi hoi hL).1).1 t hd)
      · obtain ⟨oi, hoi⟩ := hat i (by omega)
        obtain ⟨_, _, v, hv⟩ := hr.parts i oi hoi
        have hd : oi.dst ≠ some t := by simpa [touchT, hoi] using htt
        show (sn (i + 1)).tm.get t = _
        rw [hv, putV_ne hd]
    · cases hL : L i with
      | false => rfl
      | true =>
        rcases Nat.lt_or_ge j i with hlt | hge
        · obtain ⟨oi, hoi⟩ := hat i hin
          have hd : oi.dst = some t := by simpa [touchT, hoi] using htt
          exact absurd ht ((Oper.apart_spec (h2 i oi hlt hoi hL).1).2.2 t hd)
        · have : i = j := by omega
          rw [this, hj] at hL; cases hL
  have hblk : ∀ b ∈ ac j, hc ops sn wr L b = (sn j).hp[b]? := by
    intro b hb
    have hbl := htidy.accb b hb
    unfold hc
    rw [lw_skip (j := j) (by omega) (fun i hi hin htt => ?_)]
    · refine lw_full (fun i hi htt => ?_) (fun i hi htt => ?_)
      · cases hL : L i with
        | true => rfl
        | false =>
          obtain ⟨oi, hoi⟩ := hat i (by omega)
          rw [(h1 i oi hi hoi hL).2.1 b hb] at htt; cases htt
      · obtain ⟨oi, hoi⟩ := hat i (by omega)
        exact touch_back hr hoi htt
    · cases hL : L i with
      | false => rfl
      | true =>
        rcases Nat.lt_or_ge j i with hlt | hge
        · obtain ⟨oi, hoi⟩ := hat i hin
          have hm := hmono j i (by omega) (by omega)
          simp only [touchB, Bool.or_eq_true, Bool.and_eq_true, decide_eq_true_eq] at htt
          rcases htt with htt | htt
          · exact absurd hb ((h2 i oi hlt hoi hL).2.2 b (by simpa using htt))
          · omega
        · have : i = j := by omega
          rw [this, hj] at hL; cases hL
  have htm' : ∀ t, touchT ops t j = true → tmc ops sn (addL L j) t = (sn (j + 1)).tm.get t := by
    intro t ht
    refine lw_add_eq hjs ht fun i hi hin htt => ?_
    cases hL : L i with
    | false => rfl
    | true =>
      obtain ⟨oi, hoi⟩ := hat i hin
      have hd : oi.dst = some t := by simpa [touchT, hoi] using htt
      have hd' : o.dst = some t := by simpa [touchT, ho] using ht
      exact absurd hd ((Oper.apart_spec (h2 i oi hi hoi hL).1).2.1 t hd')
  have htmn : ∀ t, touchT ops t j = false → tmc ops sn (addL L j) t = tmc ops sn L t := fun t ht => lw_add_ne ht _
  have hhn : ∀ b, touchB sn wr b j = false → hc ops sn wr (addL L j) b = hc ops sn wr L b := fun b hb => lw_add_ne hb _
  have hh' : ∀ b, touchB sn wr b j = true → hc ops sn wr (addL L j) b = (sn (j + 1)).hp[b]? := by
    intro b hb
    refine lw_add_eq hjs hb fun i hi hin htt => ?_
    cases hL : L i with
    | false => rfl
    | true =>
      obtain ⟨oi, hoi⟩ := hat i hin
      have hm := hmono (j + 1) i (by omega) (by omega)
      have hml := htidy.len
      simp only [touchB, Bool.or_eq_true, Bool.and_eq_true, decide_eq_true_eq] at htt
      rcases htt with htt | htt
      · have hbi : b ∈ ac i := (hTd i hin).wracc b (by simpa using htt)
        rw [(h2 i oi hi hoi hL).2.1 b hbi] at hb; cases hb
      · simp only [touchB, Bool.or_eq_true, Bool.and_eq_true, decide_eq_true_eq] at hb
        rcases hb with hb | hb
        · have := htidy.accb b (htidy.wracc b (by simpa using hb)); omega
        · omega
  have hacc' : ∀ b ∈ ac j, hc ops sn wr (addL L j) b = (sn (j + 1)).hp[b]? := by
    intro b hb
    cases ht : touchB sn wr b j with
    | true => exact hh' b ht
    | false => rw [hhn b ht, hblk b hb, touch_back hr ho ht]
  have hnew : ∀ b, (sn j).hp.length ≤ b → b < (sn (j + 1)).hp.length → hc ops sn wr (addL L j) b = (sn (j + 1)).hp[b]? := fun b hb hb' => hh' b (by simp [touchB, hb, hb'])
  have hfresh : ∀ b, (sn j).hp.length ≤ b → b < (sn (j + 1)).hp.length → μ b = none := by
    intro b hb hb'
    cases hm : μ b with
    | none => rfl
    | some g =>
      rcases I.dom b g hm with h | ⟨i, hL, hin, hib, hib'⟩
      · have := hdom0 b g h
        have := hmono 0 j (by omega) (by omega)
        omega
      · exfalso
        rcases Nat.lt_trichotomy i j with hlt | rfl | hgt
        · have := hmono (i + 1) j (by omega) (by omega); omega
        · rw [hj] at hL; cases hL
        · have := hmono (j + 1) i (by omega) (by omega); omega
  have hopr : ∀ x ∈ o.op.operands, V.R P Im μ w (evalV (sn j).tm x) (a.eval x) := by
    intro x hx
    cases x with
    | tmp t =>
      simp only [evalV, Act.eval]
      rw [← hlook t (by unfold Oper.looksAt; exact List.mem_append.2 (.inl (List.mem_filterMap.2 ⟨.tmp t, by simpa using hx, rfl⟩)))]
      exact I.tm t
    | const v => exact R_ofValue v
    | global g => simp [evalV, V.R]
    | func f => simp [evalV, Act.eval, V.R, V.RL]
  have fin : ∀ (vv : V) (val : Value) (w' : World) (μ' : Mu) (Im' : Nat → Prop), (sn (j + 1)).tm = putV (sn j).tm o.dst vv → V.R P Im' μ' w' vv val → Good P Im Im' μ μ' w w' (sn j).hp (sn (j + 1)).hp (ac j) (wr j) →
      RI P ops sn wr W I0 μ0 w0 (addL L j) (a.put o.dst val) w' Im' μ' := by
    intro vv val w' μ' Im' hvv hR hG
    have hkeep : ∀ c v, V.R P Im μ w c v → V.R P Im' μ' w' c v := fun c v h => h.keep hG.evo hG.isub hG.le
    have hlt0 : (sn 0).hp.length ≤ (sn j).hp.length := hmono 0 j (by omega) (by omega)
    have halive : ∀ b, b ∈ wr j → ∃ blk, hc ops sn wr L b = some (some blk) := by
      intro b hb
      obtain ⟨blk, h⟩ := htidy.walive b hb
      exact ⟨blk, by rw [hblk b (htidy.wracc b hb)]; exact h⟩
    have hsplit : ∀ b blk, hc ops sn wr (addL L j) b = some (some blk) → ((b ∈ ac j ∨ (sn j).hp.length ≤ b) ∧ b < (sn (j + 1)).hp.length ∧ (sn (j + 1)).hp[b]? = some (some blk)) ∨ (b ∉ ac j ∧ touchB sn wr b j = false ∧ hc ops sn wr L b = some (some blk)) := by
      intro b blk h
      by_cases hb : b ∈ ac j
      · rw [hacc' b hb] at h; exact .inl ⟨.inl hb, at_lt h, h⟩
      · cases ht : touchB sn wr b j with
        | true =>
          rw [hh' b ht] at h
          simp only [touchB, Bool.or_eq_true, Bool.and_eq_true, decide_eq_true_eq] at ht
          rcases ht with ht | ht
          · exact absurd (htidy.wracc b (by simpa using ht)) hb
          · exact .inl ⟨.inr ht.1, ht.2, h⟩
        | false => rw [hhn b ht] at h; exact .inr ⟨hb, rfl, h⟩
    have hun : ∀ b, touchB sn wr b j = false → b ∉ wr j ∧ ¬ ((sn j).hp.length ≤ b ∧ b < (sn (j + 1)).hp.length) := by
      intro b hb
      simp only [touchB, Bool.or_eq_false_iff, Bool.and_eq_false_iff, decide_eq_false_iff_not] at hb
      exact ⟨by simpa using hb.1, fun h => hb.2.elim (fun h1 => h1 h.1) fun h1 => h1 h.2⟩
    have hmu0 : ∀ b g, touchB sn wr b j = false → μ' b = some g → μ b = some g := by
      intro b g hb hg
      rcases hG.dom b g hg with h | h
      · exact h
      · exact absurd h (hun b hb).2
    have hft0 : ∀ b, touchB sn wr b j = false → μ'.ft b = μ.ft b := fun b hb => hG.ftd b (hun b hb).1 (hun b hb).2
    have hmu : ∀ b g, touchB sn wr b j = false → μ'.own b g → μ.own b g := by
      intro b g hb hg
      rcases hg with hg | hg
      · exact .inl (hmu0 b g hb hg)
      · rw [hft0 b hb] at hg; exact .inr hg
    have fromW : ∀ c k, c ∈ wr j → μ.own c k → w0.heap.size ≤ k ∨ ∃ c ∈ W, μ0.own c k ∧ Alive (sn 0).hp c := by
      intro c g hcw hcg
      obtain ⟨b3, hb3⟩ := halive c hcw
      exact I.prov c (.inr (hW j hjs c hcw)) b3 hb3 g hcg
    refine ⟨fun t => ?_, ?_, ?_, fun b blk h => ?_, fun b c b1 b2 g hne hb1 hb2 g1 g2 => ?_, fun b g hg => ?_, fun b hb hbl => ?_, ?_, I.le.trans hG.le, fun b hb blk h g hg => ?_, fun k h => hG.isub k (I.isub k h), fun k hk => ?_, I.ilt.step hG.evo hG.isub fun k hk => ?_⟩
    · cases ht : touchT ops t j with
      | false =>
        rw [htmn t ht]
        have hd : o.dst ≠ some t := by simpa [touchT, ho] using ht
        have e : (a.put o.dst val).tmps.getD t undef = a.tmps.getD t undef := by
          cases hod : o.dst with
          | none => rfl
          | some d =>
            have hdt : d ≠ t := fun e => hd (by rw [hod, e])
            simp [Act.put, Array.getElem?_setIfInBounds, hdt]
        rw [e]
        exact hkeep _ _ (I.tm t)
      | true =>
        rw [htm' t ht, hvv]
        have hd : o.dst = some t := by simpa [touchT, ho] using ht
        have hlen : (sn j).tm.n = (sn 0).tm.n := by
          have : ∀ i, i ≤ ops.size → (sn i).tm.n = (sn 0).tm.n := by
            intro i
            induction i with
            | zero => intro _; rfl
            | succ i ih =>
              intro hi
              obtain ⟨oi, hoi⟩ := hat i (by omega)
              obtain ⟨_, _, v, hv⟩ := hr.parts i oi hoi
              rw [hv, putV_len, ih (by omega)]
          exact this j (by omega)
        rw [hd]
        simp only [putV, Act.put]
        rcases (sn j).tm.get_eq t vv with ⟨e, htl⟩ | e
        · have : t < a.tmps.size := by rw [I.size]; omega
          rw [e]
          simp [this]
          exact hR
        · rw [e]
          simp [V.R]
    · cases hod : o.dst <;> simp [Act.put, I.size]
    · cases hod : o.dst <;> simp [Act.put, I.defers]
    · rcases hsplit b blk h with ⟨hb, _, h'⟩ | ⟨hb, htb, h'⟩
      · exact hG.holds b hb blk h'
      · refine (I.holds b blk h').keep hG.evo hG.isub hG.le (fun h0 => ?_) (hft0 b htb) (fun g hg hx => ?_) (fun g hg hi => ?_)
        · cases hm : μ' b with
          | none => rfl
          | some g => rw [hmu0 b g htb hm] at h0; cases h0
        · obtain ⟨c, hcw, hcg⟩ := hx
          obtain ⟨blk', hc'⟩ := halive c hcw
          exact I.inj b c _ _ g (by rintro rfl; exact hb (htidy.wracc _ hcw)) h' hc' hg hcg
        · rcases hG.igrow g hi with h | ⟨h, _⟩ | ⟨c, hcw, hcg, _⟩
          · exact (I.holds b blk h').nimm hg h
          · have := (I.holds b blk h').lt hg; omega
          · obtain ⟨blk', hc'⟩ := halive c hcw
            exact I.inj b c _ _ g (by rintro rfl; exact hb (htidy.wracc _ hcw)) h' hc' hg hcg
    · have other : ∀ b c b1 b2, b ≠ c → b ∉ ac j → touchB sn wr b j = false → hc ops sn wr L b = some (some b1) → (c ∈ ac j ∨ (sn j).hp.length ≤ c) → c < (sn (j + 1)).hp.length → (sn (j + 1)).hp[c]? = some (some b2) → μ'.own b g → μ'.own c g → False := by
        intro b c b1 b2 hne hb htb hb1 hcc hcl hc2 g1 g2
        have g1' := hmu b g htb g1
        have hbs := (I.holds b b1 hb1).lt g1'
        by_cases hcw : (sn j).hp.length ≤ c ∨ c ∈ wr j
        · rcases hG.prov c hcw b2 hc2 g g2 with h | ⟨d, hdw, hdg, _⟩
          · omega
          · obtain ⟨b3, hb3⟩ := halive d hdw
            exact I.inj b d _ _ g (by rintro rfl; exact hb (htidy.wracc _ hdw)) hb1 hb3 g1' hdg
        · simp only [not_or, Nat.not_le] at hcw
          have hca : c ∈ ac j := by rcases hcc with h | h; exact h; omega
          have g2' : μ.own c g := by
            rcases g2 with g2 | g2
            · rcases hG.dom c g g2 with h | ⟨h, _⟩
              · exact .inl h
              · omega
            · rw [hG.ftd c hcw.2 (by omega)] at g2; exact .inr g2
          have hb3 : hc ops sn wr L c = some (some b2) := by
            rw [hblk c hca, ← htidy.frame c hcw.1 hcw.2]; exact hc2
          exact I.inj b c _ _ g hne hb1 hb3 g1' g2'
      rcases hsplit b b1 hb1 with ⟨hb, hbl, hb'⟩ | ⟨hb, htb, hb'⟩
      · rcases hsplit c b2 hb2 with ⟨hc1, hcl, hc2⟩ | ⟨hc1, htc, hc2⟩
        · exact hG.inj b c b1 b2 g hne hb hc1 hb' hc2 g1 g2
        · exact other c b b2 b1 (Ne.symm hne) hc1 htc hc2 hb hbl hb' g2 g1
      · rcases hsplit c b2 hb2 with ⟨hc1, hcl, hc2⟩ | ⟨hc1, htc, hc2⟩
        · exact other b c b1 b2 hne hb htb hb' hc1 hcl hc2 g1 g2
        · exact I.inj b c b1 b2 g hne hb' hc2 (hmu b g htb g1) (hmu c g htc g2)
    · rcases hG.dom b g hg with h | ⟨h3, h4⟩
      · rcases I.dom b g h with h | ⟨i, hL, hi⟩
        · exact .inl h
        · exact .inr ⟨i, by simp [addL, hL], hi⟩
      · exact .inr ⟨j, by simp [addL], hjs, h3, h4⟩
    · rw [hG.ftd b (fun h => hb (hW j hjs b h)) (by omega)]; exact I.ftd b hb hbl
    · refine I.evo.trans hG.evo I.isub fun k hk hx => ?_
      obtain ⟨c, hcw, hcg⟩ := hx
      rcases fromW c k hcw hcg with h | ⟨d, hdW, hdg⟩
      · omega
      · exact ⟨d, hdW, hdg⟩
    · -- where it came from
      rcases hsplit b blk h with ⟨hb1, hbl, h'⟩ | ⟨hb1, htb, h'⟩
      · by_cases hbw : (sn j).hp.length ≤ b ∨ b ∈ wr j
        · rcases hG.prov b hbw blk h' g hg with h | ⟨c, hcw, hcg, _⟩
          · exact .inl (Nat.le_trans I.evo.size h)
          · exact fromW c g hcw hcg
        · -- an old block that it only looked at
          simp only [not_or, Nat.not_le] at hbw
          have hba : b ∈ ac j := by rcases hb1 with h | h; exact h; omega
          have hb3 : hc ops sn wr L b = some (some blk) := by
            rw [hblk b hba, ← htidy.frame b hbw.1 hbw.2]; exact h'
          have hg' : μ.own b g := by
            rcases hg with hg | hg
            · rcases hG.dom b g hg with h | ⟨h, _⟩
              · exact .inl h
              · omega
            · rw [hG.ftd b hbw.2 (by omega)] at hg; exact .inr hg
          exact I.prov b hb blk hb3 g hg'
      · exact I.prov b hb blk h' g (hmu b g htb hg)
    · rcases hG.igrow k hk with h | ⟨h, _⟩ | ⟨c, hcw, hcg, _⟩
      · rcases I.igrow k h with h | h | h
        · exact .inl h
        · exact .inr (.inl h)
        · exact .inr (.inr h)
      · exact .inr (.inl (Nat.le_trans I.evo.size h))
      · exact .inr (fromW c k hcw hcg)
    · rcases hG.igrow k hk with h | ⟨_, h⟩ | ⟨c, hcw, hcg, _⟩
      · exact Nat.lt_of_lt_of_le (I.ilt k h) hG.evo.size
      · exact h
      · obtain ⟨b3, hb3⟩ := halive c hcw
        exact Nat.lt_of_lt_of_le ((I.holds c b3 hb3).lt hcg) hG.evo.size
  unfold wpOp
  rw [ho]
  simp only
  have hwanted : ∀ bb, wantedV ops (sn j).tm o = some bb → Region.wanted o (yielded ops a.tmps) = bb := by
    intro bb hbb
    unfold wantedV at hbb
    unfold Region.wanted
    split at hbb
    · rename_i hg; cases hbb; rw [hg]
    · rename_i k want hg
      rw [hg]
      simp only
      split at hbb
      case h_2 => cases hbb
      case h_1 d hd =>
      split at hbb
      case h_3 => cases hbb
      case h_2 vs hbv =>
        cases hbb
        have hlk := hlook d (by unfold Oper.looksAt; rw [hg]; exact List.mem_append.2 (.inr (by simp [hd])))
        have hR := I.tm d
        rw [hlk, hbv] at hR
        simp only [V.R] at hR
        have hy : yielded ops a.tmps k = none := by
          unfold yielded
          rw [hd]
          simp only [Option.bind_some]
          by_cases hdl : d < a.tmps.size
          · simp [Array.getD_eq_getD_getElem?, hdl] at hR
            simp [hdl, hR]
          · simp [hdl]
        rw [hy]
        rfl
      case h_1 bv hbv =>
      cases hbb
      have hlk := hlook d (by unfold Oper.looksAt; rw [hg]; exact List.mem_append.2 (.inr (by simp [hd])))
      have hR := I.tm d
      rw [hlk, hbv] at hR
      simp only [V.R] at hR
      have hy : yielded ops a.tmps k = some bv := by
        unfold yielded
        rw [hd]
        simp only [Option.bind_some]
        by_cases hdl : d < a.tmps.size
        · simp [Array.getD_eq_getD_getElem?, hdl] at hR
          simp [hdl, hR]
        · simp [Array.getD_eq_getD_getElem?, hdl, undef] at hR
      rw [hy]
      cases bv <;> cases want <;> rfl
  rcases hstep with ⟨hwt, out, hout, e1, e2, e3⟩ | ⟨hwf, e1, e2, e3⟩
  · rw [hwanted true hwt]
    simp only [if_true]
    have ehp : (sn (j + 1)).hp = out.hp := by rw [e1]
    have etm : (sn (j + 1)).tm = putV (sn j).tm o.dst out.v := by rw [e1]
    left
    refine hout.wp rfl hopr ⟨I.ilt, fun b hb blk h => ?_, fun b hb c hc' b1 b2 g hne hb1 hb2 g1 g2 => ?_, fun b hb hb' => hfresh b hb (by rw [ehp]; exact hb')⟩ fun val w' μ' Im' hR hG => hK _ _ μ' Im' (fin out.v val w' μ' Im' etm hR (by rw [ehp, e2, e3]; exact hG))
    · rw [← e2] at hb
      exact I.holds b blk (by rw [hblk b hb]; exact h)
    · rw [← e2] at hb hc'
      exact I.inj b c b1 b2 g hne (by rw [hblk b hb]; exact hb1) (by rw [hblk c hc']; exact hb2) g1 g2
  · rw [hwanted false hwf]
    simp only [Bool.false_eq_true, if_false]
    have ehp : (sn (j + 1)).hp = (sn j).hp := by rw [e1]
    have etm : (sn (j + 1)).tm = putV (sn j).tm o.dst (.lit undef) := by rw [e1]
    refine hK _ _ μ Im (fin (.lit undef) undef w μ Im etm (by simp [V.R]) ?_)
    rw [ehp, e2, e3]
    exact Good.same _ ⟨I.ilt, by simp, by simp, fun b hb hb' => by omega⟩

end
end Go.Proofs.YtfncaghjfgnnhaaGreatDoor

namespace Go.Proofs.YtfncaghjfgnnhaaGreatDoor
open Go.RowKit

structure Entry (P : Program) (hp0 : Hp) (I0 : Nat → Prop) (μ0 : Mu) (w0 : World) : Prop where
  holds : ∀ b blk, hp0[b]? = some (some blk) → Holds P I0 μ0 w0 b blk
  inj : ∀ b c blk blk' g, b ≠ c → hp0[b]? = some (some blk) → hp0[c]? = some (some blk') → μ0.own b g → μ0.own c g → False
  dom : ∀ b g, μ0 b = some g → b < hp0.length

structure CI (P : Program) (hp0 : Hp) (I0 : Nat → Prop) (μ0 : Mu) (w0 : World) (s : St) (a : Act) (w : World) (Im : Nat → Prop) (μ : Mu) : Prop where
  tm : ∀ t, V.R P Im μ w (s.tm.get t) (a.tmps.getD t undef)
  size : a.tmps.size = s.tm.n
  defers : a.defers = []
  holds : ∀ b blk, s.hp[b]? = some (some blk) → Holds P Im μ w b blk
  inj : ∀ b c blk blk' g, b ≠ c → s.hp[b]? = some (some blk) → s.hp[c]? = some (some blk') → μ.own b g → μ.own c g → False
  dom : ∀ b g, μ b = some g → b < s.hp.length
  dom0 : ∀ b g, μ b = some g → b < hp0.length → μ0 b = some g
  ftd : ∀ b, b < hp0.length → b ∉ s.wr → μ.ft b = μ0.ft b
  evo : Evo I0 w0 w (fun k => ∃ b ∈ s.wr, b < hp0.length ∧ μ0.own b k)
  le : MuLe μ0 μ
  prov : ∀ b, (hp0.length ≤ b ∨ b ∈ s.wr) → ∀ blk, s.hp[b]? = some (some blk) → ∀ g, μ.own b g → w0.heap.size ≤ g ∨ ∃ c ∈ s.wr, c < hp0.length ∧ μ0.own c g ∧ Alive hp0 c
  len : hp0.length ≤ s.hp.length
  frame : ∀ b, b < hp0.length → b ∉ s.wr → s.hp[b]? = hp0[b]?
  alive : ∀ b, b < hp0.length → Alive s.hp b → Alive hp0 b
  wal : ∀ b ∈ s.wr, b < hp0.length → Alive hp0 b
  isub : Sub I0 Im
  igrow : ∀ k, Im k → I0 k ∨ w0.heap.size ≤ k ∨ ∃ c ∈ s.wr, c < hp0.length ∧ μ0.own c k ∧ Alive hp0 c
  ilt : ILt P Im w
  ent : Entry P hp0 I0 μ0 w0

section
variable {P : Program} {ops : Array Oper} {sn : Nat → St} {ac wr : Nat → List Nat}

theorem run_alive (hr : Run P ops sn ac wr) {c : Nat} (hc0 : c < (sn 0).hp.length) : ∀ i, i ≤ ops.size → Alive (sn i).hp c → Alive (sn 0).hp c := by
  intro i
  induction i with
  | zero => intro _ h; exact h
  | succ i ih =>
    intro hi ⟨blk, hal⟩
    have ht := (hr.parts i _ (Array.getElem?_eq_getElem (show i < ops.size by omega))).1
    refine ih (by omega) ?_
    by_cases hw : c ∈ wr i
    · exact ht.walive c hw
    · rw [ht.frame c (by have := lens hr (show 0 ≤ i by omega) (by omega); omega) hw] at hal; exact ⟨_, hal⟩
theorem run_dead (hr : Run P ops sn ac wr) {c : Nat} (hc0 : (sn 0).hp[c]? = some none) : ∀ i, i ≤ ops.size → (sn i).hp[c]? = some none := by
  intro i
  induction i with
  | zero => intro _; exact hc0
  | succ i ih =>
    intro hi
    have ht := (hr.parts i _ (Array.getElem?_eq_getElem (show i < ops.size by omega))).1
    have h := ih (by omega)
    rw [ht.frame c (List.getElem?_eq_some_iff.1 h).1 ?_]
    · exact h
    · intro hw
      obtain ⟨blk, hal⟩ := ht.walive c hw
      rw [h] at hal; cases hal
theorem run_frame (hr : Run P ops sn ac wr) {c : Nat} (hc0 : c < (sn 0).hp.length) (hn : ∀ i, i < ops.size → c ∉ wr i) : ∀ i, i ≤ ops.size → (sn i).hp[c]? = (sn 0).hp[c]? := by
  intro i
  induction i with
  | zero => intro _; rfl
  | succ i ih =>
    intro hi
    have ht := (hr.parts i _ (Array.getElem?_eq_getElem (show i < ops.size by omega))).1
    rw [ht.frame c (by have := lens hr (show 0 ≤ i by omega) (by omega); omega) (hn i (by omega)), ih (by omega)]
theorem run_tm (hr : Run P ops sn ac wr) : ∀ i, i ≤ ops.size → (sn i).tm.n = (sn 0).tm.n := by
  intro i
  induction i with
  | zero => intro _; rfl
  | succ i ih =>
    intro hi
    obtain ⟨_, _, v, hv⟩ := hr.parts i _ (Array.getElem?_eq_getElem (show i < ops.size by omega))
    rw [hv, putV_len, ih (by omega)]

theorem hc_all (hr : Run P ops sn ac wr) {L : Nat → Bool} (hL : ∀ i, i < ops.size → L i = true) (b : Nat) : hc ops sn wr L b = (sn ops.size).hp[b]? :=
  lw_full (fun i hi _ => hL i hi) fun i hi h => touch_back hr (Array.getElem?_eq_getElem hi) h
theorem tmc_all (hr : Run P ops sn ac wr) {L : Nat → Bool} (hL : ∀ i, i < ops.size → L i = true) (t : Nat) : tmc ops sn L t = (sn ops.size).tm.get t :=
  lw_full (fun i hi _ => hL i hi) fun i hi h => by
    obtain ⟨_, _, v, hv⟩ := hr.parts i _ (Array.getElem?_eq_getElem hi)
    have hd : ops[i].dst ≠ some t := by simpa [touchT, hi] using h
    show (sn (i + 1)).tm.get t = _
    rw [hv, putV_ne hd]
theorem lw_none {α : Type} {touch : Nat → Bool} {can : Nat → α} {L : Nat → Bool} (hL : ∀ i, L i = false) : ∀ n, lw touch can L n = can 0
  | 0 => rfl
  | n + 1 => by unfold lw; simp [hL n, lw_none hL n]

theorem ri_start {hp0 : Hp} {I0 Im : Nat → Prop} {μ0 μ : Mu} {w0 w : World} {a : Act} {W : List Nat} {L : Nat → Bool} (hL : ∀ i, L i = false) (C : CI P hp0 I0 μ0 w0 (sn 0) a w Im μ) (w1 : World) (hw : w1 = w ∨ w1 = w.drew) : RI P ops sn wr W Im μ w L a w1 Im μ := by
  have hh : ∀ b, hc ops sn wr L b = (sn 0).hp[b]? := fun b => lw_none hL _
  have ht : ∀ t, tmc ops sn L t = (sn 0).tm.get t := fun t => lw_none hL _
  have hE : Evo Im w w1 (fun k => ∃ b ∈ W, μ.own b k ∧ Alive (sn 0).hp b) := by
    rcases hw with rfl | rfl
    · exact .refl _ _
    · exact .drew _ _
  refine ⟨fun t => by rw [ht]; exact (C.tm t).keep hE (.refl _) (.refl _), C.size, C.defers, fun b blk h => by
      rw [hh] at h
      rcases hw with rfl | rfl
      · exact C.holds b blk h
      · exact (C.holds b blk h).keep (.drew w (fun _ => False)) (.refl _) (.refl _) (fun h => h) rfl (fun _ _ h => h) (fun g hg => (C.holds b blk h).nimm hg), fun b c b1 b2 g hne h1 h2 => C.inj b c b1 b2 g hne (by rw [← hh]; exact h1) (by rw [← hh]; exact h2),
    fun b g h => .inl h, fun _ _ _ => rfl, hE, .refl _, fun b hb blk h g hg => ?_, .refl _, fun k h => .inl h, C.ilt.step hE (fun _ h => h) fun k h => Nat.lt_of_lt_of_le (C.ilt k h) hE.size⟩
  rw [hh] at h
  rcases hb with hb | hb
  · rw [List.getElem?_eq_none hb] at h; cases h
  · exact .inr ⟨b, hb, hg, ⟨_, h⟩⟩

theorem ci_region (hr : Run P ops sn ac wr) {hp0 : Hp} {I0 Im Im' : Nat → Prop} {μ0 μ μ' : Mu} {w0 w w' : World} {a a' : Act} {W : List Nat} {L : Nat → Bool} (hL : ∀ i, i < ops.size → L i = true)
    (hW : ∀ b, b ∈ W ↔ ∃ i, i < ops.size ∧ b ∈ wr i) (hWn : ∀ b, b ∈ (sn ops.size).wr ↔ b ∈ (sn 0).wr ∨ b ∈ W)
    (C : CI P hp0 I0 μ0 w0 (sn 0) a w Im μ) (I : RI P ops sn wr W Im μ w L a' w' Im' μ') : CI P hp0 I0 μ0 w0 (sn ops.size) a' w' Im' μ' := by
  have hh := hc_all hr hL
  have ht := tmc_all hr hL
  have hl := lens hr (Nat.zero_le ops.size) (Nat.le_refl _)
  have hall := fun c hc0 => run_alive hr (c := c) hc0 ops.size (Nat.le_refl _)
  have hfr : ∀ b, b < (sn 0).hp.length → b ∉ W → (sn ops.size).hp[b]? = (sn 0).hp[b]? := fun b hb hn => run_frame hr hb (fun i hi h => hn ((hW b).2 ⟨i, hi, h⟩)) ops.size (Nat.le_refl _)
  have holdmu : ∀ b g, b < (sn 0).hp.length → μ' b = some g → μ b = some g := by
    intro b g hb hg
    rcases I.dom b g hg with h | ⟨i, _, hi, h3, _⟩
    · exact h
    · have := lens hr (Nat.zero_le i) (by omega); omega
  have holdown : ∀ b g, b < (sn 0).hp.length → b ∉ W → μ'.own b g → μ.own b g := by
    intro b g hb hn hg
    rcases hg with hg | hg
    · exact .inl (holdmu b g hb hg)
    · rw [I.ftd b hn hb] at hg; exact .inr hg
  have hWlt : ∀ b, b ∈ W → b < (sn 0).hp.length → Alive (sn 0).hp b := by
    intro b hb hlt
    obtain ⟨i, hi, hbi⟩ := (hW b).1 hb
    have hti := (hr.parts i _ (Array.getElem?_eq_getElem hi)).1
    exact run_alive hr hlt i (by omega) (hti.walive b hbi)
  have old : ∀ c g, c ∈ W → μ.own c g → Alive (sn 0).hp c → w0.heap.size ≤ g ∨ ∃ c ∈ (sn ops.size).wr, c < hp0.length ∧ μ0.own c g ∧ Alive hp0 c := by
    intro c g hcW hcg hca
    obtain ⟨blk, hal⟩ := hca
    by_cases hc0 : hp0.length ≤ c ∨ c ∈ (sn 0).wr
    · rcases C.prov c hc0 blk hal g hcg with h | ⟨d, hd, hd0, hdg, hda⟩
      · exact .inl h
      · exact .inr ⟨d, (hWn d).2 (.inl hd), hd0, hdg, hda⟩
    · have hcl : c < hp0.length := by
        rcases Nat.lt_or_ge c hp0.length with h | h
        · exact h
        · exact absurd (.inl h) hc0
      have hcw : c ∉ (sn 0).wr := fun h => hc0 (.inr h)
      refine .inr ⟨c, (hWn c).2 (.inr hcW), hcl, ?_, C.alive c hcl ⟨_, hal⟩⟩
      rcases hcg with hcg | hcg
      · exact .inl (C.dom0 c g hcg hcl)
      · rw [C.ftd c hcl hcw] at hcg; exact .inr hcg
  refine ⟨fun t => by rw [← ht]; exact I.tm t, by rw [I.size, run_tm hr _ (Nat.le_refl _)], I.defers, fun b blk h => I.holds b blk (by rw [hh]; exact h), fun b c b1 b2 g hne h1 h2 => I.inj b c b1 b2 g hne (by rw [hh]; exact h1) (by rw [hh]; exact h2),
    fun b g h => ?_, fun b g h hb => C.dom0 b g (holdmu b g (by have := C.len; omega) h) hb, fun b hb hn => ?_, ?_, C.le.trans I.le, fun b hb blk h g hg => ?_, Nat.le_trans C.len hl, fun b hb hn => ?_, fun b hb h => C.alive b hb (hall b (by have := C.len; omega) h), fun b hb hb0 => ?_, fun k h => I.isub k (C.isub k h), fun k hk => ?_, I.ilt, C.ent⟩
  · rcases I.dom b g h with h | ⟨i, _, hi, _, h4⟩
    · have := C.dom b g h; omega
    · have := lens hr (show i + 1 ≤ ops.size by omega) (Nat.le_refl _); omega
  · rw [I.ftd b (fun h => hn ((hWn b).2 (.inr h))) (by have := C.len; omega), C.ftd b hb (fun h => hn ((hWn b).2 (.inl h)))]
  · refine (C.evo.mono (fun k hk => by obtain ⟨b, hb, hg⟩ := hk; exact ⟨b, (hWn b).2 (.inl hb), hg⟩)).trans I.evo C.isub fun k hk hx => ?_
    obtain ⟨b, hb, hg, hal⟩ := hx
    rcases old b k hb hg hal with h | ⟨c, hc, hc0, hcg, _⟩
    · omega
    · exact ⟨c, hc, hc0, hcg⟩
  · rcases Nat.lt_or_ge b (sn 0).hp.length with hb0 | hb0
    · by_cases hbW : b ∈ W
      · rcases I.prov b (.inr hbW) blk (by rw [hh]; exact h) g hg with h | ⟨c, hcW, hcg, hca⟩
        · exact .inl (Nat.le_trans C.evo.size h)
        · exact old c g hcW hcg hca
      · have hg' := holdown b g hb0 hbW hg
        rw [hfr b hb0 hbW] at h
        rcases C.prov b (hb.elim .inl fun h => ((hWn b).1 h).elim .inr fun h => absurd h hbW) blk h g hg' with h | ⟨d, hd, hd0, hdg, hda⟩
        · exact .inl h
        · exact .inr ⟨d, (hWn d).2 (.inl hd), hd0, hdg, hda⟩
    · rcases I.prov b (.inl hb0) blk (by rw [hh]; exact h) g hg with h | ⟨c, hcW, hcg, hca⟩
      · exact .inl (Nat.le_trans C.evo.size h)
      · exact old c g hcW hcg hca
  · rw [hfr b (by have := C.len; omega) (fun h => hn ((hWn b).2 (.inr h)))]
    exact C.frame b hb (fun h => hn ((hWn b).2 (.inl h)))
  · rcases (hWn b).1 hb with h | h
    · exact C.wal b h hb0
    · exact C.alive b hb0 (hWlt b h (by have := C.len; omega))
  · rcases I.igrow k hk with h | h | ⟨c, hcW, hcg, hca⟩
    · rcases C.igrow k h with h | h | ⟨d, hd, hd0, hdg, hda⟩
      · exact .inl h
      · exact .inr (.inl h)
      · exact .inr (.inr ⟨d, (hWn d).2 (.inl hd), hd0, hdg, hda⟩)
    · exact .inr (.inl (Nat.le_trans C.evo.size h))
    · rcases old c k hcW hcg hca with h | h
      · exact .inr (.inl h)
      · exact .inr (.inr h)

theorem region_seq (hn : Named P) (hr : Run P ops sn ac wr) {W : List Nat} {I0 : Nat → Prop} {μ : Mu} {w : World} (hW : ∀ i, i < ops.size → ∀ b ∈ wr i, b ∈ W) (hdom : ∀ b g, μ b = some g → b < (sn 0).hp.length)
    {Q : Exit → Act → World → Prop} (hQ : ∀ L a' w' μ' Im', (∀ i, i < ops.size → L i = true) → RI P ops sn wr W I0 μ w L a' w' Im' μ' → Q .normal a' w') :
    ∀ (m k : Nat), k + m = ops.size → ∀ a w1 μ1 Im1, RI P ops sn wr W I0 μ w (fun i => decide (i < k)) a w1 Im1 μ1 → wpOps P ops Q (List.range' k m) a w1
  | 0, k, hk, a, w1, μ1, Im1, I => by
    simp only [List.range'_zero, wpOps]
    exact hQ _ _ _ _ _ (fun i hi => by simp; omega) I
  | m + 1, k, hk, a, w1, μ1, Im1, I => by
    rw [List.range'_succ, wpOps_cons]
    refine ri_step hn hr hW hdom (Array.getElem?_eq_getElem (show k < ops.size by omega)) (by simp) (fun i oi hi _ hL => by simp at hL; omega) (fun i oi hi _ hL => by simp at hL; omega) I fun a' w' μ' Im' I' => ?_
    have e : addL (fun i => decide (i < k)) k = fun i => decide (i < k + 1) := by
      funext i
      rw [Bool.eq_iff_iff]
      simp [addL]
      omega
    rw [e] at I'
    exact region_seq hn hr hW hdom hQ m (k + 1) (by omega) a' w' μ' Im' I'

structure Free (ops : Array Oper) (sn : Nat → St) (ac wr : Nat → List Nat) (i j : Nat) : Prop where
  apart : ∀ oi oj, ops[i]? = some oi → ops[j]? = some oj → oi.apart ops oj = true
  read : ∀ b ∈ ac j, touchB sn wr b i = false
  write : ∀ b ∈ wr j, b ∉ ac i

inductive Ahead (ops : Array Oper) (i : Nat) : Nat → Prop where
  | one {j : Nat} {o : Oper} {e : Edge} (ho : ops[j]? = some o) (he : e ∈ o.after) (hb : Region.binds .any e = true) (h : e.on = i) : Ahead ops i j
  | more {j : Nat} {o : Oper} {e : Edge} (ho : ops[j]? = some o) (he : e ∈ o.after) (hb : Region.binds .any e = true) (h : Ahead ops i e.on) : Ahead ops i j

def Closed (ops : Array Oper) (L : Nat → Bool) : Prop := ∀ j o e, L j = true → ops[j]? = some o → e ∈ o.after → Region.binds .any e = true → L e.on = true
theorem Ahead.closed {L : Nat → Bool} (hL : Closed ops L) {i j : Nat} (h : Ahead ops i j) (hj : L j = true) : L i = true := by
  induction h with
  | one ho he hb h => rw [← h]; exact hL _ _ _ hj ho he hb
  | more ho he hb _ ih => exact ih (hL _ _ _ hj ho he hb)

def listedL (listed : Array Bool) : Nat → Bool := fun i => listed.getD i false

theorem region_any (hn : Named P) (hr : Run P ops sn ac wr) {W : List Nat} {I0 : Nat → Prop} {μ : Mu} {w : World} (hW : ∀ i, i < ops.size → ∀ b ∈ wr i, b ∈ W) (hdom : ∀ b g, μ b = some g → b < (sn 0).hp.length)
    (hback : ∀ j o e, ops[j]? = some o → e ∈ o.after → Region.binds .any e = true → e.on < j)
    (hfree : ∀ i j, i < j → j < ops.size → Ahead ops i j ∨ Free ops sn ac wr i j)
    {Q : Exit → Act → World → Prop} (hQ : ∀ L a' w' μ' Im', (∀ i, i < ops.size → L i = true) → RI P ops sn wr W I0 μ w L a' w' Im' μ' → Q .normal a' w') :
    ∀ (fuel : Nat) (listed : Array Bool), listed.size = ops.size → listed.toList.countP (· == false) ≤ fuel → Closed ops (listedL listed) → ∀ a w1 μ1 Im1, RI P ops sn wr W I0 μ w (listedL listed) a w1 Im1 μ1 → wpAny P .any ops Q fuel listed a w1 := by
  have done : ∀ listed : Array Bool, listed.size = ops.size → Region.ready .any ops listed = [] → ∀ i, i < ops.size → listedL listed i = true := by
    intro listed hs hrd i
    induction i using Nat.strongRecOn with
    | _ i ih =>
      intro hi
      cases hl : listedL listed i with
      | true => rfl
      | false =>
        exfalso
        have hm : i ∈ Region.ready .any ops listed := by
          unfold Region.ready
          rw [List.mem_filter]
          refine ⟨by simpa using hi, ?_⟩
          have hli : listed.getD i true = false := by
            simp only [listedL, Array.getD_eq_getD_getElem?] at hl ⊢
            rw [Array.getElem?_eq_getElem (by omega)] at hl ⊢
            simpa using hl
          rw [hli, Array.getElem?_eq_getElem hi]
          simp only [Bool.not_false, Bool.true_and, Option.map_some, Option.getD_some]
          rw [Array.all_eq_true_iff_forall_mem]
          intro e he
          cases hb : Region.binds .any e with
          | false => rfl
          | true =>
            have hlt := hback i _ e (Array.getElem?_eq_getElem hi) he hb
            have := ih e.on hlt (by omega)
            simpa [listedL] using this
        rw [hrd] at hm
        simp at hm
  have step : ∀ (listed : Array Bool), listed.size = ops.size → Closed ops (listedL listed) → ∀ i, i ∈ Region.ready .any ops listed → i < ops.size ∧ listedL listed i = false ∧ (∀ e, e ∈ (ops[i]?).elim #[] (·.after) → Region.binds .any e = true → listedL listed e.on = true) := by
    intro listed hs hcl i hi
    unfold Region.ready at hi
    rw [List.mem_filter] at hi
    obtain ⟨h1, h2⟩ := hi
    have h1 : i < ops.size := by simpa using h1
    rw [Bool.and_eq_true] at h2
    obtain ⟨h2, h3⟩ := h2
    refine ⟨h1, ?_, fun e he hb => ?_⟩
    · simp only [listedL, Array.getD_eq_getD_getElem?] at h2 ⊢
      rw [Array.getElem?_eq_getElem (by omega)] at h2 ⊢
      simpa using h2
    · rw [Array.getElem?_eq_getElem h1] at h3 he
      simp only [Option.map_some, Option.getD_some, Option.elim_some] at h3 he
      have := (Array.all_eq_true_iff_forall_mem.1 h3) e he
      simpa [hb, listedL] using this
  intro fuel
  induction fuel with
  | zero =>
    intro listed hs hf hcl a w1 μ1 Im1 I
    have hall : ∀ i, i < ops.size → listedL listed i = true := by
      intro i hi
      have hz : listed.toList.countP (· == false) = 0 := by omega
      have hm : listed[i]'(by omega) ∈ listed.toList := by simp
      have := List.countP_eq_zero.1 hz _ hm
      simp only [listedL, Array.getD_eq_getD_getElem?]
      rw [Array.getElem?_eq_getElem (by omega)]
      simpa using this
    refine ⟨?_, hQ _ _ _ _ _ hall I⟩
    rw [List.eq_nil_iff_forall_not_mem]
    intro i hi
    obtain ⟨h1, h2, _⟩ := step listed hs hcl i hi
    rw [hall i h1] at h2; cases h2
  | succ fuel ih =>
    intro listed hs hf hcl a w1 μ1 Im1 I
    refine ⟨fun hrd => hQ _ _ _ _ _ (done listed hs hrd) I, fun i hi => ?_⟩
    obtain ⟨h1, h2, h3⟩ := step listed hs hcl i hi
    refine ri_step hn hr hW hdom (Array.getElem?_eq_getElem h1) h2 (fun k ok hk hok hL => ?_) (fun k ok hk hok hL => ?_) I fun a' w' μ' Im' I' => ?_
    · rcases hfree k i hk h1 with h | h
      · exfalso
        cases h with
        | one ho he hb h =>
          have := h3 _ (by rw [ho]; exact he) hb
          rw [h, hL] at this; cases this
        | more ho he hb h =>
          have := h.closed hcl (h3 _ (by rw [ho]; exact he) hb)
          rw [hL] at this; cases this
      · exact ⟨h.apart _ _ hok (Array.getElem?_eq_getElem h1), h.read, h.write⟩
    · have hks : k < ops.size := (Array.getElem?_eq_some_iff.1 hok).1
      rcases hfree i k hk hks with h | h
      · have := h.closed hcl hL
        rw [h2] at this; cases this
      · exact ⟨h.apart _ _ (Array.getElem?_eq_getElem h1) hok, h.read, h.write⟩
    · have e : listedL (listed.setIfInBounds i true) = addL (listedL listed) i := by
        funext k
        simp only [listedL, addL, Array.getD_eq_getD_getElem?, Array.getElem?_setIfInBounds]
        by_cases hik : i = k
        · subst hik; simp [hs, h1]
        · have : ¬ k = i := fun e => hik e.symm
          simp [hik, this]
      refine ih _ (by simp [hs]) ?_ ?_ a' w' μ' Im' (by rw [e]; exact I')
      · rw [Array.toList_setIfInBounds, List.countP_set (h := by simpa [hs] using h1)]
        have h2' : listed.toList[i]'(by simpa [hs] using h1) = false := by
          simp only [listedL, Array.getD_eq_getD_getElem?] at h2
          rw [Array.getElem?_eq_getElem (by omega)] at h2
          simpa using h2
        rw [h2']
        simp only [show (false == false) = true from rfl, show (true == false) = false from rfl, if_true, Bool.false_eq_true, if_false]
        omega
      · rw [e]
        intro k o ed hk ho he hb
        simp only [addL, Bool.or_eq_true, beq_iff_eq] at hk ⊢
        rcases hk with rfl | hk
        · exact .inr (h3 ed (by rw [ho]; exact he) hb)
        · exact .inr (hcl k o ed hk ho he hb)

end
end Go.Proofs.YtfncaghjfgnnhaaGreatDoor

namespace Go.Proofs.YtfncaghjfgnnhaaGreatDoor
open Go.RowKit

abbrev Rec := St × List Nat × List Nat

inductive TraceR (P : Program) (ops : Array Oper) : List Oper → St → List Rec → St → Prop where
  | nil (s : St) : TraceR P ops [] s [] s
  | cons {o : Oper} {rest : List Oper} {s s' s2 : St} {acc wr : List Nat} {l : List Rec} (h : StepR P ops s o s' acc wr) (t : TraceR P ops rest s' l s2) : TraceR P ops (o :: rest) s ((s, acc, wr) :: l) s2

def snOf (l : List Rec) (s2 : St) (i : Nat) : St := match l[i]? with
  | some r => r.1
  | none => s2
def acOf (l : List Rec) (i : Nat) : List Nat := match l[i]? with
  | some r => r.2.1
  | none => []
def wrOf (l : List Rec) (i : Nat) : List Nat := match l[i]? with
  | some r => r.2.2
  | none => []

def maskOf (acc : List Nat) : List Edge → Nat
  | [] => 0
  | e :: es => if Region.binds .any e then (2 ^ e.on ||| acc.getD e.on 0) ||| maskOf acc es else maskOf acc es
def befL : List Oper → List Nat → List Nat
  | [], acc => acc
  | o :: os, acc => befL os (acc ++ [maskOf acc o.after.toList])

def freeB (ops : Array Oper) (l : List Rec) (s2 : St) (i j : Nat) : Bool :=
  (match ops[i]?, ops[j]? with
    | some oi, some oj => oi.apart ops oj
    | _, _ => false) &&
  (acOf l j).all (fun b => !touchB (snOf l s2) (wrOf l) b i) && (wrOf l j).all fun b => !(acOf l i).contains b

def drawOK (ops : Array Oper) (l : List Rec) (s2 : St) : Bool :=
  let ms := befL ops.toList []
  (ops.toList.zipIdx.all fun x => x.1.after.toList.all fun e => !Region.binds .any e || decide (e.on < x.2)) &&
  (List.range ops.size).all fun j => (List.range j).all fun i => (ms.getD j 0).testBit i || freeB ops l s2 i j

def evResult (P : Program) (hp : Hp) (tm : Tm) : ResultVar → Option V
  | .tmp t => some (tm.get t)
  | .cell a t => (evLoad P hp t (tm.get a)).map (·.v)
def evResultL (P : Program) (hp : Hp) (tm : Tm) : List ResultVar → Option (List V)
  | [] => some []
  | r :: rs => match evResult P hp tm r, evResultL P hp tm rs with
    | some v, some vs => some (v :: vs)
    | _, _ => none
def oneOf : List V → V
  | [v] => v
  | vs => .tup vs

section
variable {P : Program} {ops : Array Oper}

theorem trace_run : ∀ {os : List Oper} {s : St} {l : List Rec} {s2 : St}, TraceR P ops os s l s2 →
    l.length = os.length ∧ snOf l s2 0 = s ∧ (∀ (i : Nat) (o : Oper), os[i]? = some o → StepR P ops (snOf l s2 i) o (snOf l s2 (i + 1)) (acOf l i) (wrOf l i))
  | _, _, _, _, .nil s => ⟨rfl, rfl, by simp⟩
  | _, _, _, s2, .cons (o := o) (rest := rest) (s := s) (s' := s') (acc := acc) (wr := wr) (l := l') hs ht => by
    obtain ⟨h1, h2, h3⟩ := trace_run ht
    refine ⟨by simp [h1], rfl, fun i o' ho => ?_⟩
    cases i with
    | zero =>
      simp at ho; subst ho
      show StepR P ops s o (snOf ((s, acc, wr) :: l') s2 1) acc wr
      have : snOf ((s, acc, wr) :: l') s2 1 = snOf l' s2 0 := rfl
      rw [this, h2]
      exact hs
    | succ i =>
      have := h3 i o' (by simpa using ho)
      simpa [snOf, acOf, wrOf] using this

theorem mask_spec {acc : List Nat} {i : Nat} : ∀ {es : List Edge}, (maskOf acc es).testBit i = true → ∃ e ∈ es, Region.binds .any e = true ∧ (e.on = i ∨ (acc.getD e.on 0).testBit i = true)
  | [], h => by simp [maskOf] at h
  | e :: es, h => by
    unfold maskOf at h
    split at h
    · rename_i hb
      rw [Nat.testBit_or, Nat.testBit_or, Bool.or_eq_true, Bool.or_eq_true, Nat.testBit_two_pow] at h
      rcases h with (h | h) | h
      · exact ⟨e, by simp, hb, .inl (by simpa using h)⟩
      · exact ⟨e, by simp, hb, .inr h⟩
      · obtain ⟨e', he, h1, h2⟩ := mask_spec h
        exact ⟨e', by simp [he], h1, h2⟩
    · obtain ⟨e', he, h1, h2⟩ := mask_spec h
      exact ⟨e', by simp [he], h1, h2⟩

theorem bef_spec (ops : Array Oper) : ∀ (os : List Oper) (acc : List Nat), ops.toList = (ops.toList.take acc.length) ++ os → acc.length ≤ ops.size →
    (∀ j i, (acc.getD j 0).testBit i = true → Ahead ops i j) → ∀ j i, ((befL os acc).getD j 0).testBit i = true → Ahead ops i j
  | [], acc, _, _, h => h
  | o :: os, acc, he, hl, h => by
    unfold befL
    have hlt : acc.length < ops.size := by
      have := congrArg List.length he
      simp at this; omega
    have hmin : (ops.toList.take acc.length).length = acc.length := by simp; omega
    have ho : ops[acc.length]? = some o := by
      rw [← Array.getElem?_toList, he, List.getElem?_append_right (by omega), hmin, Nat.sub_self]
      rfl
    refine bef_spec ops os _ ?_ (by simp; omega) fun j i hb => ?_
    · rw [List.length_append, List.length_singleton, List.take_add_one, Array.getElem?_toList, ho]
      conv => lhs; rw [he]
      simp
    · simp only [List.getD_eq_getElem?_getD] at hb
      rw [List.getElem?_append] at hb
      split at hb
      · exact h j i (by simpa [List.getD_eq_getElem?_getD] using hb)
      · rename_i hj
        cases hk : j - acc.length with
        | zero =>
          rw [hk] at hb
          simp at hb
          have hje : j = acc.length := by omega
          obtain ⟨e, hme, hbd, hor⟩ := mask_spec hb
          rw [hje]
          rcases hor with h1 | h1
          · exact .one ho (by simpa using hme) hbd h1
          · exact .more ho (by simpa using hme) hbd (h _ _ h1)
        | succ k => rw [hk] at hb; simp at hb

theorem draw_spec {l : List Rec} {s2 : St} (h : drawOK ops l s2 = true) : (∀ j o e, ops[j]? = some o → e ∈ o.after → Region.binds .any e = true → e.on < j) ∧
    (∀ i j, i < j → j < ops.size → Ahead ops i j ∨ Free ops (snOf l s2) (acOf l) (wrOf l) i j) := by
  unfold drawOK at h
  simp only [Bool.and_eq_true] at h
  obtain ⟨h1, h2⟩ := h
  refine ⟨fun j o e ho he hb => ?_, fun i j hij hj => ?_⟩
  · rw [List.all_eq_true] at h1
    have hm : (o, j) ∈ ops.toList.zipIdx := by
      rw [List.mem_zipIdx_iff_getElem?]
      simpa using ho
    have := h1 _ hm
    rw [List.all_eq_true] at this
    have := this e (by simpa using he)
    simpa [hb] using this
  · rw [List.all_eq_true] at h2
    have h3 := h2 j (by simpa using hj)
    rw [List.all_eq_true] at h3
    have h4 := h3 i (by simpa using hij)
    rw [Bool.or_eq_true] at h4
    rcases h4 with h4 | h4
    · exact .inl (bef_spec ops ops.toList [] (by simp) (by simp) (by simp) j i h4)
    · right
      unfold freeB at h4
      simp only [Bool.and_eq_true, List.all_eq_true] at h4
      obtain ⟨⟨h5, h6⟩, h7⟩ := h4
      refine ⟨fun oi oj hoi hoj => ?_, fun b hb => by simpa using h6 b hb, fun b hb => by simpa using h7 b hb⟩
      rw [hoi, hoj] at h5
      exact h5

theorem trace_key {s s' : St} : ∀ l, TraceR P ops ops.toList s l s' → ∃ (hr : Run P ops (snOf l s') (acOf l) (wrOf l)), snOf l s' 0 = s ∧ snOf l s' ops.size = s' ∧ (∀ b, b ∈ (l.flatMap (·.2.2)) ↔ ∃ i, i < ops.size ∧ b ∈ wrOf l i) ∧ (∀ b, b ∈ s'.wr ↔ b ∈ s.wr ∨ b ∈ (l.flatMap (·.2.2))) := by
  intro l hl
  obtain ⟨h1, h2, h3⟩ := trace_run hl
  have hr : Run P ops (snOf l s') (acOf l) (wrOf l) := ⟨fun i o ho => h3 i o (by simpa using ho)⟩
  have hsz : l.length = ops.size := by simpa using h1
  have hW : ∀ b, b ∈ (l.flatMap (·.2.2)) ↔ ∃ i, i < ops.size ∧ b ∈ wrOf l i := by
    intro b
    rw [List.mem_flatMap]
    constructor
    · rintro ⟨r, hrl, hb⟩
      obtain ⟨i, hi, rfl⟩ := List.getElem_of_mem hrl
      exact ⟨i, by omega, by simp [wrOf, List.getElem?_eq_getElem hi, hb]⟩
    · rintro ⟨i, hi, hb⟩
      have hil : i < l.length := by omega
      exact ⟨l[i], List.getElem_mem hil, by simpa [wrOf, List.getElem?_eq_getElem hil] using hb⟩
  have hend : snOf l s' ops.size = s' := by simp [snOf, hsz]
  refine ⟨hr, h2, hend, hW, fun b => ?_⟩
  have hwr : ∀ i, i ≤ ops.size → (b ∈ (snOf l s' i).wr ↔ b ∈ s.wr ∨ ∃ k, k < i ∧ b ∈ wrOf l k) := by
    intro i
    induction i with
    | zero => intro _; rw [h2]; simp
    | succ i ih =>
      intro hi
      obtain ⟨_, hw, _⟩ := hr.parts i _ (Array.getElem?_eq_getElem (show i < ops.size by omega))
      rw [hw, List.mem_append, ih (by omega)]
      constructor
      · rintro ((h | ⟨k, hk, h⟩) | h)
        · exact .inl h
        · exact .inr ⟨k, by omega, h⟩
        · exact .inr ⟨i, by omega, h⟩
      · rintro (h | ⟨k, hk, h⟩)
        · exact .inl (.inl h)
        · by_cases e : k = i
          · subst e; exact .inr h
          · exact .inl (.inr ⟨k, by omega, h⟩)
  rw [hW]
  have := hwr ops.size (Nat.le_refl _)
  rw [hend] at this
  exact this


structure SR (hp0 : Hp) (s : St) : Prop where
  len : hp0.length ≤ s.hp.length
  frame : ∀ b, b < hp0.length → b ∉ s.wr → s.hp[b]? = hp0[b]?
  alive : ∀ b, b < hp0.length → Alive s.hp b → Alive hp0 b

theorem region_static {s s' : St} {l : List Rec} (hl : TraceR P ops ops.toList s l s') {hp0 : Hp} (C : SR hp0 s) : SR hp0 s' := by
  obtain ⟨hr, h0, hN, hW, hWn⟩ := trace_key l hl
  have hl := lens hr (Nat.zero_le ops.size) (Nat.le_refl _)
  rw [h0, hN] at hl
  refine ⟨Nat.le_trans C.len hl, fun b hb hn => ?_, fun b hb h => ?_⟩
  · have := run_frame hr (c := b) (by rw [h0]; have := C.len; omega) (fun i hi hbi => hn ((hWn b).2 (.inr ((hW b).2 ⟨i, hi, hbi⟩)))) ops.size (Nat.le_refl _)
    rw [h0, hN] at this
    rw [this]
    exact C.frame b hb fun h => hn ((hWn b).2 (.inl h))
  · have := run_alive hr (c := b) (by rw [h0]; have := C.len; omega) ops.size (Nat.le_refl _) (by rw [hN]; exact h)
    rw [h0] at this
    exact C.alive b hb this

theorem region_sound (hm : P.follows .mixedOrders = true) (hn : Named P) {draw : Bool} {s s' : St} {l : List Rec} (hl : TraceR P ops ops.toList s l s') (hd : draw = true → drawOK ops l s' = true) {hp0 : Hp} {I0 Im : Nat → Prop} {μ0 μ : Mu} {w0 w : World} {a : Act}
    (C : CI P hp0 I0 μ0 w0 s a w Im μ) {id : Nat} {Q : Exit → Act → World → Prop} (hQ : ∀ a' w' μ' Im', CI P hp0 I0 μ0 w0 s' a' w' Im' μ' → Q .normal a' w') : (Code.region id ops draw).wp P Q a w := by
  obtain ⟨hr, h0, hN, hW, hWn⟩ := trace_key l hl
  cases draw
  · refine wp_region ?_
    rw [show List.range ops.size = List.range' 0 ops.size from List.range_eq_range' ..]
    refine region_seq hn hr (W := l.flatMap (·.2.2)) (fun i hi b hb => (hW b).2 ⟨i, hi, hb⟩) (by rw [h0]; exact C.dom) (fun L a' w' μ' Im' hL I => hQ a' w' μ' Im' ?_) ops.size 0 (by omega) a w μ Im (ri_start (fun i => by simp) (by rw [h0]; exact C) w (.inl rfl))
    have := ci_region hr hL hW (by rw [hN, h0]; exact hWn) (by rw [h0]; exact C) I
    rwa [hN] at this
  · obtain ⟨hback, hfree⟩ := draw_spec (hd rfl)
    refine wp_region_any hm ?_
    refine region_any hn hr (W := l.flatMap (·.2.2)) (fun i hi b hb => (hW b).2 ⟨i, hi, hb⟩) (by rw [h0]; exact C.dom) hback hfree (fun L a' w' μ' Im' hL I => hQ a' w' μ' Im' ?_) ops.size _ (by simp) (Nat.le_trans List.countP_le_length (by simp)) ?_ a _ μ Im (ri_start (fun i => ?_) (by rw [h0]; exact C) w.drew (.inr rfl))
    · have := ci_region hr hL hW (by rw [hN, h0]; exact hWn) (by rw [h0]; exact C) I
      rwa [hN] at this
    · intro j o e hj
      simp only [listedL, Array.getD_eq_getD_getElem?, Array.getElem?_replicate] at hj
      split at hj <;> cases hj
    · simp only [listedL, Array.getD_eq_getD_getElem?, Array.getElem?_replicate]
      split <;> rfl

def Ex.toExit : Ex → Exit
  | .normal => .normal
  | .exit id => .exit id
  | .ret => .ret

end
end Go.Proofs.YtfncaghjfgnnhaaGreatDoor

namespace Go.Proofs.YtfncaghjfgnnhaaGreatDoor
open Go.RowKit

section
variable {P : Program} {callF : CallF}

def resSem (tmps : Array Value) : ResultVar → Sem Value
  | .tmp t => pure (tmps.getD t undef)
  | .cell x t => do loadVar t (← asAddr (tmps.getD x undef))

theorem load_hp {hp : Hp} {t : TypeId} {x : V} {out : Out} (h : evLoad P hp t x = some out) : out.hp = hp := by
  unfold evLoad at h
  repeat' split at h
  all_goals first | (cases h; done) | (cases h; rfl)
theorem result_sound {hp : Hp} {tm : Tm} {a : Act} {w : World} {Im : Nat → Prop} {μ : Mu} (htm : ∀ t, V.R P Im μ w (tm.get t) (a.tmps.getD t undef)) (hh : ∀ b blk, hp[b]? = some (some blk) → Holds P Im μ w b blk)
    (hil : ILt P Im w) (hi : ∀ b c blk blk' g, b ≠ c → hp[b]? = some (some blk) → hp[c]? = some (some blk') → μ.own b g → μ.own c g → False) {r : ResultVar} {v : V} (h : evResult P hp tm r = some v) :
    ∃ val, (resSem a.tmps r).run P w = .ok val w ∧ V.R P Im μ w v val := by
  unfold resSem
  unfold evResult at h
  split at h
  · cases h; exact ⟨_, rfl, htm _⟩
  · rename_i x t
    obtain ⟨out, ho, rfl⟩ := Option.map_eq_some_iff.1 h
    have hx := asPtr_R (htm x)
    have e : out.hp = hp := load_hp ho
    obtain ⟨h1, h2, h3, val, hr, hR⟩ := load_sound ho (htm x) ⟨hil, fun b _ blk hb => hh b blk hb, fun b _ c _ b1 b2 g hne hb hc => hi b c b1 b2 g hne hb hc, fun b hb hb' => by
      rw [e] at hb'; omega⟩
    refine ⟨val, ?_, hR⟩
    have key : ∃ ad, a.tmps.getD x undef = .pointer (some ad) := by
      unfold evLoad at ho
      split at ho
      case h_3 => cases ho
      case h_2 cs hxe =>
        rw [hxe] at hx
        simp only [V.R] at hx
        obtain ⟨g, off, hg, _⟩ := hx
        exact ⟨_, hg⟩
      case h_1 b off hxe =>
        rw [hxe] at hx
        simp only [V.R] at hx
        obtain ⟨g, _, hg⟩ := hx
        exact ⟨_, hg⟩
    obtain ⟨ad, hg⟩ := key
    simp only [hg, Instr.loadAt, Instr.sureAddr, Sem.run_bind, Sem.run_pure, Result.andThen_ok] at hr
    simp only [hg, asAddr, Sem.run_bind, Sem.run_pure, Result.andThen_ok]
    exact hr

theorem resultL_sound {hp : Hp} {tm : Tm} {a : Act} {w : World} {Im : Nat → Prop} {μ : Mu} (htm : ∀ t, V.R P Im μ w (tm.get t) (a.tmps.getD t undef)) (hh : ∀ b blk, hp[b]? = some (some blk) → Holds P Im μ w b blk)
    (hil : ILt P Im w) (hi : ∀ b c blk blk' g, b ≠ c → hp[b]? = some (some blk) → hp[c]? = some (some blk') → μ.own b g → μ.own c g → False) : ∀ {rs : List ResultVar} {vs : List V}, evResultL P hp tm rs = some vs →
    ∃ vals : List Value, (rs.mapM (resSem a.tmps)).run P w = .ok vals w ∧ V.RL P Im μ w vs vals
  | [], vs, h => by cases h; exact ⟨[], rfl, by simp [V.RL]⟩
  | r :: rs, vs, h => by
    unfold evResultL at h
    split at h
    case h_2 => cases h
    case h_1 v vs' h1 h2 =>
    cases h
    obtain ⟨val, hr, hR⟩ := result_sound htm hh hil hi h1
    obtain ⟨vals, hrs, hRs⟩ := resultL_sound htm hh hil hi h2
    refine ⟨val :: vals, ?_, by simp only [V.RL]; exact ⟨_, _, rfl, hR, hRs⟩⟩
    rw [List.mapM_cons, Sem.run_bind, hr]
    simp only [Result.andThen_ok, Sem.run_bind, hrs, Sem.run_pure]

theorem results_sound {fn : Func} {hp : Hp} {tm : Tm} {a : Act} {w : World} {Im : Nat → Prop} {μ : Mu} (htm : ∀ t, V.R P Im μ w (tm.get t) (a.tmps.getD t undef)) (hh : ∀ b blk, hp[b]? = some (some blk) → Holds P Im μ w b blk)
    (hil : ILt P Im w) (hi : ∀ b c blk blk' g, b ≠ c → hp[b]? = some (some blk) → hp[c]? = some (some blk') → μ.own b g → μ.own c g → False) {vs : List V} (h : evResultL P hp tm fn.results.toList = some vs) :
    ∃ val, (results fn a.tmps).run P w = .ok val w ∧ V.R P Im μ w (oneOf vs) val := by
  obtain ⟨vals, hr, hR⟩ := resultL_sound htm hh hil hi h
  have hl := hR.length
  have hrun : (results fn a.tmps).run P w = .ok (if h : vals.toArray.size = 1 then vals.toArray[0] else .tuple vals.toArray) w := by
    have e : results fn a.tmps = (do let vs ← fn.results.mapM (resSem a.tmps); pure (if h : vs.size = 1 then vs[0] else .tuple vs)) := by
      unfold results
      first | rfl | (congr 1; congr 1; funext r; cases r <;> rfl) | (congr 1)
    rw [e, Sem.run_bind, Array.mapM_eq_mapM_toList]
    simp only [map_eq_pure_bind, Sem.run_bind, Sem.run_pure]
    rw [hr]
    simp only [Result.andThen_ok]
  refine ⟨_, hrun, ?_⟩
  match vs, vals, hR, hl with
  | [], [], _, _ => simp [oneOf, V.R, V.RL]
  | [v], [u], hR, _ =>
    simp only [V.RL] at hR
    obtain ⟨u', us, e, h1, _⟩ := hR
    cases e
    simpa [oneOf] using h1
  | v1 :: v2 :: vs, u1 :: u2 :: us, hR, _ => simp only [oneOf]; simp; simp only [V.R]; exact ⟨_, rfl, by simpa using hR⟩

end

mutual
def V.fz (v : V) : V := match v with
  | .osl _ n o cs => .dsl n false (match o with
    | true => V.fzL cs
    | false => cs)
  | v => v
def V.fzL (l : List V) : List V := match l with
  | [] => []
  | c :: cs => V.fz c :: V.fzL cs
end
def fzS : Bool → List V → List V
  | true, c => V.fzL c
  | false, c => c
theorem fz_osl {T : TypeId} {n : Nat} {o : Bool} {cs : List V} : V.fz (.osl T n o cs) = .dsl n false (fzS o cs) := by
  cases o <;> simp [V.fz, fzS]
def frzSeg (f : V → V) : List V → List V
  | [] => []
  | x :: t => match x with
    | .sld c => match t with
      | [] => c
      | _ :: _ => c ++ frzSeg f t
    | .slo c => match t with
      | [] => V.fzL c
      | _ :: _ => V.fzL c ++ frzSeg f t
    | x => f x :: frzSeg f t
theorem frzSeg_seal {f : V → V} {o : Bool} {c : List V} : ∀ {t : List V}, frzSeg f (mkS o c :: t) = fzS o c ++ frzSeg f t
  | [] => by cases o <;> simp [frzSeg, mkS, fzS]
  | y :: u => by cases o <;> rfl
theorem frzSeg_cons {f : V → V} {x : V} {t : List V} (hx : x.seals = none) : frzSeg f (x :: t) = f x :: frzSeg f t := by
  cases x <;> first | rfl | simp [V.seals] at hx
def frzIn (P : Program) (hp : Hp) (kept : List Nat) (m : Nat) : Nat → V → V
  | 0, _ => .junk
  | n + 1, v => match v with
    | .sl b off k full => if kept.contains b || decide (b < m) then .junk else
      match hp[b]? with
      | some (some blk) => match hasSeal blk.1 with
        | true => if Nat.beq off 0 then .dsl k false (frzSeg (frzIn P hp kept m n) blk.1) else .junk
        | false => match szOf P blk.2 with
          | some s => if ((blk.1.drop off).take (k * s)).length = k * s then .dsl k false (((blk.1.drop off).take (k * s)).map (frzIn P hp kept m n)) else .junk
          | none => .junk
      | _ => .junk
    | .ptr _ _ => .junk
    | .agg cs => .agg (cs.map (frzIn P hp kept m n))
    | .tup cs => .tup (cs.map (frzIn P hp kept m n))
    | .fn f cs => .fn f (cs.map (frzIn P hp kept m n))
    | .box f cs => .box f (cs.map (frzIn P hp kept m n))
    | .dsl k _ cs => .dsl k false cs
    | .osl _ k o cs => .dsl k false (fzS o cs)
    | .eptr _ _ _ => .junk
    | v => v
def frz (P : Program) (hp : Hp) (kept : List Nat) (m : Nat) : Nat → V → V
  | 0, _ => .junk
  | n + 1, v => match v with
    | .sl b off k full => match pos kept b with
      | some j => .sl j off k full
      | none => frzIn P hp kept m (n + 1) (.sl b off k full)
    | .ptr b off => match pos kept b with
      | some j => .ptr j off
      | none => .junk
    | .eptr b base rel => match pos kept b with
      | some j => .eptr j base rel
      | none => .junk
    | .agg cs => .agg (cs.map (frz P hp kept m n))
    | .tup cs => .tup (cs.map (frz P hp kept m n))
    | .fn f cs => .fn f (cs.map (frz P hp kept m n))
    | .box f cs => .box f (cs.map (frz P hp kept m n))
    | v => v

mutual
def V.can : V → V
  | .dsl n _ cs => .dsl n false cs
  | .agg cs => .agg (V.canL cs)
  | .tup cs => .tup (V.canL cs)
  | .int k n => .int k n
  | .bool b => .bool b
  | .str s => .str s
  | .nilp => .nilp
  | .ptr b o => .ptr b o
  | .sl b o n f => .sl b o n f
  | .dptr cs => .dptr cs
  | .sld cs => .sld cs
  | .slo cs => .slo cs
  | .eptr b o r => .eptr b o r
  | .osl T n o cs => .osl T n o cs
  | .fn f cs => .fn f cs
  | .box f cs => .box f cs
  | .nilf => .nilf
  | .lit u => .lit u
  | .junk => .junk
def V.canL : List V → List V
  | [] => []
  | c :: cs => V.can c :: V.canL cs
end
def flatC : List V → List V
  | [] => []
  | x :: t => match x with
    | .sld c => match t with
      | [] => c
      | _ :: _ => c ++ flatC t
    | .slo c => match t with
      | [] => c
      | _ :: _ => c ++ flatC t
    | x => V.can x :: flatC t
theorem flatC_seal {o : Bool} {c : List V} : ∀ {t : List V}, flatC (mkS o c :: t) = c ++ flatC t
  | [] => by cases o <;> simp [flatC, mkS]
  | y :: u => by cases o <;> rfl
def soleSeal : List V → Bool
  | [x] => match x with
    | .sld _ => true
    | .slo _ => true
    | _ => false
  | _ => false
def sealSt (m b : Nat) (s : St) : St :=
  match s.hp[b]? with
  | some (some blk) => match Nat.ble m b && !(soleSeal blk.1), V.refsL blk.1 with
    | true, [] => ⟨s.tm, s.hp.set b (some ([mkS (hasO blk.1) (flatC blk.1)], blk.2)), s.wr⟩
    | _, _ => s
  | _ => s
def sealAll (m : Nat) : List Nat → St → St
  | [], s => s
  | b :: bs, s => sealAll m bs (sealSt m b s)

section
variable {P : Program} {callF : CallF}

theorem fz_plain {c : V} (h : c.isO = false) : V.fz c = c := by
  cases c
  case osl => simp [V.isO] at h
  all_goals (rw [V.fz]; intro T n o cs e; cases e)
mutual
theorem fz_sound {I I' : Nat → Prop} {w : World} (hsub : Sub I I') : ∀ (c : V) (F : List Nat) (u : Value), (∀ k ∈ F, I' k) → V.O P I w F c u → V.R P I' noMu w (V.fz c) u
  | c, F, u, hF, h => by
    cases hc : c.isO with
    | false =>
      rw [fz_plain hc]
      exact ((O_plain hc).1 h).2.keep (.refl w (fun _ => False)) hsub (.refl _)
    | true =>
      cases c
      case osl T n o cs =>
        rw [fz_osl]
        simp only [V.R]
        rcases O_osl.1 h with ⟨rfl, rfl, a', rfl, ha'⟩ | ⟨g, cap, i, cells, fr, F', rfl, rfl, h3, h4, h5, h6, h7, h8, h9, h10⟩
        · exact ⟨a', 0, rfl, Nat.le_refl _, fun _ => rfl, ha'.imp (fun h => ⟨h, rfl⟩) id, .inr (.inl rfl)⟩
        · have h11 : V.RL P I' noMu w (fzS o cs) (cells.toList.take cs.length) := by
            cases o with
            | true => exact fzL_sound hsub cs F' _ (fun k hk => hF k (by simp [hk])) h10
            | false => exact h10.2.keep (.refl w (fun _ => False)) hsub (.refl _)
          have hl := h11.length
          have hl2 : (cells.toList.take cs.length).length = cs.length := by rw [List.length_take]; simp only [Array.length_toList]; omega
          rw [hl2] at hl
          exact ⟨_, cap, rfl, h3, by simp, .inr ⟨_, _, rfl⟩, .inr <| .inr ⟨g, 0, rfl, hF g (by simp), cells, _, fr, h6, by rw [← hl]; exact h11⟩⟩
      all_goals simp [V.isO] at hc
theorem fzL_sound {I I' : Nat → Prop} {w : World} (hsub : Sub I I') : ∀ (cs : List V) (F : List Nat) (us : List Value), (∀ k ∈ F, I' k) → V.OL P I w F cs us → V.RL P I' noMu w (V.fzL cs) us
  | [], F, us, _, h => by
    obtain ⟨_, rfl⟩ := OL_nil.1 h
    rw [V.fzL]; simp [V.RL]
  | c :: cs, F, us, hF, h => by
    obtain ⟨u, us', F1, F2, rfl, rfl, h1, h2⟩ := OL_cons.1 h
    rw [V.fzL]
    simp only [V.RL]
    exact ⟨u, us', rfl, fz_sound hsub c F1 u (fun k hk => hF k (by simp [hk])) h1, fzL_sound hsub cs F2 us' (fun k hk => hF k (by simp [hk])) h2⟩
end
theorem fzS_sound {I I' : Nat → Prop} {w : World} (hsub : Sub I I') {o : Bool} {F : List Nat} {c : List V} {us : List Value} (hF : ∀ k ∈ F, I' k) (h : OS P I w o F c us) : V.RL P I' noMu w (fzS o c) us := by
  cases o
  · exact h.2.keep (.refl w (fun _ => False)) hsub (.refl _)
  · exact fzL_sound hsub c F us hF h

theorem frzSeg_sound {I I' : Nat → Prop} {μ : Mu} {w : World} {f : V → V} (h : ∀ c F u, (∀ k ∈ F, I' k) → OX P I μ w F c u → V.R P I' noMu w (f c) u) (hsub : Sub I I') : ∀ {l : List V} {F : List Nat} {vs : List Value}, (∀ k ∈ F, I' k) → CR P I μ w F l vs → V.RL P I' noMu w (frzSeg f l) vs
  | [], F, _, _, k => by
    obtain ⟨_, rfl⟩ := CR.nil_iff.1 k
    simp [frzSeg, V.RL]
  | x :: t, F, vs, hF, k => by
    rcases seal_or x with ⟨o, c, rfl⟩ | hx
    · obtain ⟨us, vs', F1, F2, rfl, rfl, h1, h2⟩ := CR.sealO_iff.1 k
      rw [frzSeg_seal]
      exact (fzS_sound hsub (fun k hk => hF k (by simp [hk])) h1).append (frzSeg_sound h hsub (fun k hk => hF k (by simp [hk])) h2)
    · obtain ⟨u, us, F1, F2, rfl, rfl, h1, h2⟩ := (CR.cons_iff hx).1 k
      rw [frzSeg_cons hx]
      simp only [V.RL]
      exact ⟨u, us, rfl, h _ _ _ (fun k hk => hF k (by simp [hk])) h1, frzSeg_sound h hsub (fun k hk => hF k (by simp [hk])) h2⟩
theorem mapSeg_sound {I I' : Nat → Prop} {μ μ' : Mu} {w : World} {f : V → V} (h : ∀ c u, V.R P I μ w c u → V.R P I' μ' w (f c) u) (hf : ∀ c, c.isO = true → f c = c) (hs : ∀ o c, f (mkS o c) = mkS o c) (hsub : Sub I I') : ∀ {l : List V} {F : List Nat} {vs : List Value}, CR P I μ w F l vs → CR P I' μ' w F (l.map f) vs
  | [], F, _, k => CR.nil_iff.2 (CR.nil_iff.1 k)
  | x :: t, F, vs, k => by
    rw [List.map_cons]
    rcases seal_or x with ⟨o, c, rfl⟩ | hx
    · obtain ⟨us, vs', F1, F2, rfl, rfl, h1, h2⟩ := CR.sealO_iff.1 k
      rw [hs]
      exact CR.sealO_iff.2 ⟨us, vs', F1, F2, rfl, rfl, h1.keep (.refl w (fun _ => False)) hsub (fun _ _ h => h), mapSeg_sound h hf hs hsub h2⟩
    · obtain ⟨u, us, F1, F2, rfl, rfl, h1, h2⟩ := (CR.cons_iff hx).1 k
      cases hc : x.isO with
      | true =>
        rw [hf x hc]
        unfold OX at h1
        rw [hc] at h1
        exact (CR.cons_iff hx).2 ⟨u, us, F1, F2, rfl, rfl, OX_ofO (V.O.keep (.refl w (fun _ => False)) hsub x F1 u (fun _ _ h => h) h1), mapSeg_sound h hf hs hsub h2⟩
      | false =>
        obtain ⟨rfl, h1'⟩ := h1.plain hc
        have h3 := h _ _ h1'
        exact (CR.cons_iff (R_noS h3)).2 ⟨u, us, [], F2, rfl, rfl, OX_ofR h3, mapSeg_sound h hf hs hsub h2⟩

mutual
theorem R_can {I : Nat → Prop} {μ : Mu} {w : World} : ∀ (v : V) (u : Value), V.R P I μ w v u → V.R P I μ w (V.can v) u
  | .int _ _, _, h => by simpa only [V.can, V.R] using h
  | .bool _, _, h => by simpa only [V.can, V.R] using h
  | .str _, _, h => by simpa only [V.can, V.R] using h
  | .nilp, _, h => by simpa only [V.can, V.R] using h
  | .ptr _ _, _, h => by simpa only [V.can, V.R] using h
  | .sl _ _ _ _, _, h => by simpa only [V.can, V.R] using h
  | .dsl _ _ _, _, h => by
    simp only [V.can, V.R] at h ⊢
    obtain ⟨a, cap, h1, h2, _, h4, h5⟩ := h
    exact ⟨a, cap, h1, h2, by simp, h4, h5⟩
  | .dptr _, _, h => by simpa only [V.can, V.R] using h
  | .sld _, _, h => by simp [V.R] at h
  | .slo _, _, h => by simp [V.R] at h
  | .eptr _ _ _, _, h => by simpa only [V.can, V.R] using h
  | .osl _ _ _ _, _, h => by simp [V.R] at h
  | .agg cs, _, h => by
    simp only [V.can, V.R] at h ⊢
    obtain ⟨vs, h1, h2⟩ := h
    exact ⟨vs, h1, RL_can cs _ h2⟩
  | .tup cs, _, h => by
    simp only [V.can, V.R] at h ⊢
    obtain ⟨vs, h1, h2⟩ := h
    exact ⟨vs, h1, RL_can cs _ h2⟩
  | .fn _ cs, _, h => by simpa only [V.can, V.R] using h
  | .box _ cs, _, h => by simpa only [V.can, V.R] using h
  | .nilf, _, h => by simpa only [V.can, V.R] using h
  | .lit _, _, h => by simpa only [V.can, V.R] using h
  | .junk, _, _ => by simp [V.can, V.R]
theorem RL_can {I : Nat → Prop} {μ : Mu} {w : World} : ∀ (cs : List V) (us : List Value), V.RL P I μ w cs us → V.RL P I μ w (V.canL cs) us
  | [], _, h => by simpa only [V.canL, V.RL] using h
  | c :: cs, _, h => by
    simp only [V.canL, V.RL] at h ⊢
    obtain ⟨u, us', h1, h2, h3⟩ := h
    exact ⟨u, us', h1, R_can c u h2, RL_can cs us' h3⟩
end
theorem refs_can : (∀ v : V, (V.can v).refs = v.refs) ∧ (∀ l : List V, V.refsL (V.canL l) = V.refsL l) := by
  constructor
  · intro v
    exact V.rec (motive_1 := fun v => (V.can v).refs = v.refs) (motive_2 := fun l => V.refsL (V.canL l) = V.refsL l)
      (fun _ _ => rfl) (fun _ => rfl) (fun _ => rfl) rfl (fun _ _ => rfl) (fun _ _ _ _ => rfl) (fun _ _ _ _ => rfl) (fun _ _ => rfl) (fun _ _ => rfl) (fun _ _ => rfl) (fun _ h => by simpa only [V.can, V.refs] using h) (fun _ h => by simpa only [V.can, V.refs] using h) (fun _ _ _ => rfl) (fun _ _ _ => rfl) (fun _ _ _ => rfl) (fun _ _ _ _ _ => rfl) rfl (fun _ => rfl) rfl rfl (fun _ _ h1 h2 => by simp only [V.canL, V.refsL, h1, h2]) v
  · intro l
    exact V.rec_1 (motive_1 := fun v => (V.can v).refs = v.refs) (motive_2 := fun l => V.refsL (V.canL l) = V.refsL l)
      (fun _ _ => rfl) (fun _ => rfl) (fun _ => rfl) rfl (fun _ _ => rfl) (fun _ _ _ _ => rfl) (fun _ _ _ _ => rfl) (fun _ _ => rfl) (fun _ _ => rfl) (fun _ _ => rfl) (fun _ h => by simpa only [V.can, V.refs] using h) (fun _ h => by simpa only [V.can, V.refs] using h) (fun _ _ _ => rfl) (fun _ _ _ => rfl) (fun _ _ _ => rfl) (fun _ _ _ _ _ => rfl) rfl (fun _ => rfl) rfl rfl (fun _ _ h1 h2 => by simp only [V.canL, V.refsL, h1, h2]) l
theorem can_noSeal {x : V} (hx : x.seals = none) : (V.can x).seals = none := by
  cases x <;> first | (simp [V.seals] at hx; done) | (simp only [V.can]; rfl)
theorem flatC_cons {x : V} {t : List V} (hx : x.seals = none) : flatC (x :: t) = V.can x :: flatC t := by
  cases x <;> first | rfl | simp [V.seals] at hx
theorem can_isO (x : V) : (V.can x).isO = x.isO := by cases x <;> first | rfl | (simp only [V.can]; done)
theorem can_O {x : V} (h : x.isO = true) : V.can x = x := by cases x <;> first | (simp [V.isO] at h; done) | (simp only [V.can])
theorem CR.canL {I : Nat → Prop} {μ : Mu} {w : World} : ∀ {l : List V} {F : List Nat} {vs : List Value}, V.refsL l = [] → CR P I μ w F l vs → OS P I w (hasO l) F (flatC l) vs
  | [], F, _, _, h => by
    obtain ⟨rfl, rfl⟩ := CR.nil_iff.1 h
    exact OS_nil
  | x :: t, F, vs, hr, h => by
    simp only [V.refsL, List.append_eq_nil_iff] at hr
    have ht : ∀ {F : List Nat} {vs : List Value}, CR P I μ w F t vs → V.OL P I w F (flatC t) vs := fun h => (CR.canL hr.2 h).toOL
    have hcons : hasO (x :: t) = (hasO [x] || hasO t) := by simp [hasO]
    rcases seal_or x with ⟨o, c, rfl⟩ | hx
    · obtain ⟨us, vs', F1, F2, rfl, rfl, h1, h2⟩ := CR.sealO_iff.1 h
      rw [flatC_seal]
      have ho : hasO [mkS o c] = o := by cases o <;> rfl
      rw [hcons, ho]
      have ih := CR.canL hr.2 h2
      cases o
      · rw [Bool.false_or]
        obtain ⟨rfl, h1⟩ := h1
        cases hq : hasO t with
        | false =>
          rw [hq] at ih
          exact ⟨ih.1, h1.append ih.2⟩
        | true =>
          show V.OL P I w _ _ _
          exact (OL_ofRL h1).append ih.toOL
      · rw [Bool.true_or]
        show V.OL P I w _ _ _
        exact h1.toOL.append ih.toOL
    · obtain ⟨u, us, F1, F2, rfl, rfl, h1, h2⟩ := (CR.cons_iff hx).1 h
      rw [flatC_cons hx]
      have ih := CR.canL hr.2 h2
      rw [hcons]
      cases hc : x.isO with
      | true =>
        have : hasO [x] = true := by cases x <;> first | rfl | simp [V.isO] at hc
        rw [this, Bool.true_or, can_O hc]
        unfold OX at h1
        rw [hc] at h1
        show V.OL P I w _ _ _
        exact OL_cons.2 ⟨u, us, F1, F2, rfl, rfl, h1, ih.toOL⟩
      | false =>
        obtain ⟨rfl, h1'⟩ := h1.plain hc
        have h3 := R_can x u (R_nomu x u hr.1 h1')
        cases hq : (hasO [x] || hasO t) with
        | true =>
          show V.OL P I w _ _ _
          exact OL_cons.2 ⟨u, us, [], F2, rfl, rfl, (O_plain (by rw [can_isO]; exact hc)).2 ⟨rfl, h3⟩, ih.toOL⟩
        | false =>
          rw [Bool.or_eq_false_iff] at hq
          rw [hq.2] at ih
          refine ⟨ih.1, ?_⟩
          simp only [V.RL]
          exact ⟨u, us, rfl, h3, ih.2⟩

theorem frzIn_noS {hp : Hp} {kept : List Nat} {m n : Nat} {x : V} (hx : x.seals = none) : (frzIn P hp kept m n x).seals = none := by
  cases n with
  | zero => rfl
  | succ n =>
    cases x <;> first | (simp [V.seals] at hx; done) | skip
    all_goals (unfold frzIn; repeat' split)
    all_goals first | rfl | (rename_i h; cases h; rfl)
theorem frz_noS {hp : Hp} {kept : List Nat} {m n : Nat} {x : V} (hx : x.seals = none) : (frz P hp kept m n x).seals = none := by
  cases n with
  | zero => rfl
  | succ n =>
    cases x <;> first | (simp [V.seals] at hx; done) | skip
    all_goals (unfold frz; repeat' split)
    all_goals first | rfl | (exact frzIn_noS rfl) | (rename_i h; cases h; rfl)
theorem flat_map_length {f : V → V} (hs : ∀ o c, f (mkS o c) = mkS o c) (hf : ∀ x, x.seals = none → (f x).seals = none) : ∀ l : List V, (flat (l.map f)).length = (flat l).length
  | [] => rfl
  | x :: t => by
    rw [List.map_cons]
    rcases seal_or x with ⟨o, c, rfl⟩ | hx
    · rw [hs, flat_sealO, flat_sealO, List.length_append, List.length_append, flat_map_length hs hf t]
    · rw [flat_cons hx, flat_cons (hf x hx), List.length_cons, List.length_cons, flat_map_length hs hf t]

structure Weak (P : Program) (m : Nat) (s s' : St) : Prop where
  st : ∀ hp0 : Hp, hp0.length = m → SR hp0 s → SR hp0 s'
  run : ∀ {hp0 : Hp} {I0 : Nat → Prop} {μ0 : Mu} {w0 : World}, hp0.length = m → ∀ {a : Act} {w : World} {Im : Nat → Prop} {μ : Mu}, CI P hp0 I0 μ0 w0 s a w Im μ → ∃ Im' μ', CI P hp0 I0 μ0 w0 s' a w Im' μ'

def normTm (P : Program) (hp : Hp) (perm : List Nat) (m : Nat) (tm : Tm) : List Nat → Tm → Tm
  | [], t => t
  | i :: is, t => normTm P hp perm m tm is (t.put i (frz P hp perm m 100 (tm.get i)))
def normSt (P : Program) (m : Nat) (keep perm : List Nat) (s : St) : St :=
  ⟨normTm P s.hp perm m s.tm keep ⟨s.tm.n, Tr.mk0 11⟩,
   perm.map (fun b => if decide (b < m) && !s.wr.contains b then s.hp.getD b none else (s.hp.getD b none).map fun blk => (blk.1.map (frz P s.hp perm m 100), blk.2)),
   (s.wr.filter fun b => decide (b < m)).eraseDups⟩

theorem normTm_get (hp : Hp) (perm : List Nat) (m : Nat) (tm : Tm) (t : Nat) : ∀ (is : List Nat) (t0 : Tm), (normTm P hp perm m tm is t0).get t = t0.get t ∨ (normTm P hp perm m tm is t0).get t = .junk ∨ (normTm P hp perm m tm is t0).get t = frz P hp perm m 100 (tm.get t)
  | [], _ => .inl rfl
  | i :: is, t0 => by
    unfold normTm
    rcases normTm_get hp perm m tm t is (t0.put i (frz P hp perm m 100 (tm.get i))) with h | h | h
    · by_cases e : i = t
      · subst e
        rcases t0.get_eq i (frz P hp perm m 100 (tm.get i)) with h2 | h2
        · right; right; rw [h, h2.1]
        · right; left; rw [h, h2]
      · left; rw [h, t0.get_ne _ e]
    · exact .inr (.inl h)
    · exact .inr (.inr h)
theorem normTm_n (hp : Hp) (perm : List Nat) (m : Nat) (tm : Tm) : ∀ (is : List Nat) (t0 : Tm), (normTm P hp perm m tm is t0).n = t0.n
  | [], _ => rfl
  | _ :: is, t0 => by unfold normTm; rw [normTm_n hp perm m tm is]; rfl

def permOK (m : Nat) (perm : List Nat) : Bool := (List.range m).all (fun j => perm[j]? == some j) && decide perm.Nodup

structure WeakV (P : Program) (m : Nat) (s s' : St) (f : V → V) : Prop where
  st : ∀ hp0 : Hp, hp0.length = m → SR hp0 s → SR hp0 s'
  run : ∀ {hp0 : Hp} {I0 : Nat → Prop} {μ0 : Mu} {w0 : World}, hp0.length = m → ∀ {a : Act} {w : World} {Im : Nat → Prop} {μ : Mu}, CI P hp0 I0 μ0 w0 s a w Im μ → ∃ Im' μ', CI P hp0 I0 μ0 w0 s' a w Im' μ' ∧ ∀ v u, V.R P Im μ w v u → V.R P Im' μ' w (f v) u
theorem norm_weakV {m : Nat} {keep ids : List Nat} {s : St} (hp : permOK m ids = true) : WeakV P m s (normSt P m keep ids s) (frz P s.hp ids m 100) := by
  unfold permOK at hp
  rw [Bool.and_eq_true, List.all_eq_true, decide_eq_true_eq] at hp
  obtain ⟨hlow1, hnd'⟩ := hp
  have hlow0 : ∀ j, j < m → ids[j]? = some j := fun j hj => by simpa using hlow1 j (by simpa using hj)
  have hlen : m ≤ ids.length := by
    rcases Nat.lt_or_ge ids.length m with h | h
    · have := hlow0 ids.length h
      simp at this
    · exact h
  constructor
  · intro hp0 e hst
    have hget : ∀ b, b < m → s.hp[b]? = some (s.hp.getD b none) := by
      intro b hb
      have : b < s.hp.length := by have := hst.len; omega
      rw [List.getD_eq_getElem?_getD, List.getElem?_eq_getElem this]; rfl
    refine ⟨by simp only [normSt, List.length_map]; omega, fun b hb hn => ?_, fun b hb h => ?_⟩
    · have hnw : b ∉ s.wr := fun h => hn (by simp only [normSt, List.mem_eraseDups, List.mem_filter]; exact ⟨h, by simpa using (show b < m by omega)⟩)
      simp only [normSt]
      rw [List.getElem?_map, hlow0 b (by omega)]
      simp only [Option.map_some]
      rw [if_pos (by simp [hnw, show b < m by omega]), ← hget b (by omega)]
      exact hst.frame b hb hnw
    · obtain ⟨blk, h⟩ := h
      simp only [normSt] at h
      rw [List.getElem?_map, hlow0 b (by omega)] at h
      simp only [Option.map_some, Option.some.injEq] at h
      refine hst.alive b hb ?_
      split at h
      · exact ⟨blk, by rw [hget b (by omega), h]⟩
      · obtain ⟨blk0, h0, _⟩ := Option.map_eq_some_iff.1 h
        exact ⟨blk0, by rw [hget b (by omega), h0]⟩
  · intro hp0 I0 μ0 w0 e a w Im μ C
    subst e
    have hlow : ∀ j, j < hp0.length → ids[j]? = some j := by
      intro j hj
      exact hlow0 j hj
    have hhigh : ∀ j b, hp0.length ≤ j → ids[j]? = some b → hp0.length ≤ b := by
      intro j b hj hb
      rcases Nat.lt_or_ge b hp0.length with h | h
      · have h1 := pos_of hnd' (hlow b h)
        rw [pos_of hnd' hb] at h1
        cases h1; omega
      · exact h
    let μr : Mu := ⟨fun j => match ids[j]? with
      | some b => μ b
      | none => none, fun j => match ids[j]? with
      | some b => μ.ft b
      | none => []⟩
    have hft : ∀ j b, ids[j]? = some b → μr.ft j = μ.ft b := by intro j b h; simp [μr, h]
    have hown : ∀ j b g, ids[j]? = some b → μr.own j g → μ.own b g := by
      intro j b g h hg
      rcases hg with hg | hg
      · left; simpa [μr, h] using hg
      · rw [hft j b h] at hg; exact .inr hg
    have hμr : ∀ j b, ids[j]? = some b → μr j = μ b := by intro j b h; simp [μr, h]
    have hρ : ∀ b b' g, pos ids b = some b' → μ b = some g → μr b' = some g := by
      intro b b' g hb hg; rw [hμr b' b (pos_spec hb)]; exact hg
    let Ir : Nat → Prop := fun k => Im k ∨ ∃ b, b ∉ ids ∧ hp0.length ≤ b ∧ Alive s.hp b ∧ μ.own b k
    have hsub : Sub Im Ir := fun k h => .inl h
    have hnir : ∀ b blk g, b ∈ ids → s.hp[b]? = some (some blk) → μ.own b g → ¬ Ir g := by
      rintro b blk g hbi hb hg (h | ⟨c, hci, _, ⟨blk', hc⟩, hcg⟩)
      · exact (C.holds b blk hb).nimm hg h
      · exact C.inj b c _ _ g (by rintro rfl; exact hci hbi) hb hc hg hcg
    have hE : Evo Im w w (fun _ => False) := .refl _ _
    have frzIn_sound : ∀ (n : Nat) (c : V) (u : Value), V.R P Im μ w c u → V.R P Ir noMu w (frzIn P s.hp ids hp0.length n c) u := by
      intro n
      induction n with
      | zero => intro c u _; simp [frzIn, V.R]
      | succ n ih =>
        have ihL : ∀ (cs : List V) (us : List Value), V.RL P Im μ w cs us → V.RL P Ir noMu w (cs.map (frzIn P s.hp ids hp0.length n)) us := by
          intro cs
          induction cs with
          | nil => intro us h; simpa [V.RL] using h
          | cons c cs ihc =>
            intro us h
            simp only [V.RL] at h
            obtain ⟨u, us', rfl, h1, h2⟩ := h
            simp only [List.map_cons, V.RL]
            exact ⟨u, us', rfl, ih c u h1, ihc us' h2⟩
        have ihO : ∀ (c : V) (F : List Nat) (u : Value), (∀ k ∈ F, Ir k) → OX P Im μ w F c u → V.R P Ir noMu w (frzIn P s.hp ids hp0.length n c) u := by
          intro c F u hF h
          cases hc : c.isO with
          | false => exact ih c u (h.plain hc).2
          | true =>
            unfold OX at h
            rw [hc] at h
            cases n with
            | zero => simp [frzIn, V.R]
            | succ n =>
              have := fz_sound hsub c F u hF h
              cases c <;> first | (simp [V.isO] at hc; done) | (rw [fz_osl] at this; exact this)
        have ihOL : ∀ (cs : List V) (F : List Nat) (us : List Value), (∀ k ∈ F, Ir k) → OXL P Im μ w F cs us → V.RL P Ir noMu w (cs.map (frzIn P s.hp ids hp0.length n)) us := by
          intro cs
          induction cs with
          | nil => intro F us _ h; obtain ⟨_, rfl⟩ := h; simp [V.RL]
          | cons c cs ihc =>
            intro F us hF h
            obtain ⟨u, us', F1, F2, rfl, rfl, h1, h2⟩ := h
            simp only [List.map_cons, V.RL]
            exact ⟨u, us', rfl, ihO c F1 u (fun k hk => hF k (by simp [hk])) h1, ihc F2 us' (fun k hk => hF k (by simp [hk])) h2⟩
        intro c u h
        unfold frzIn
        split
        · rename_i b off k full
          split
          · simp [V.R]
          · rename_i hc
            simp only [Bool.or_eq_true, decide_eq_true_eq, not_or] at hc
            split
            · rename_i blk hb
              split
              · rename_i hs0
                split
                · rename_i hoff
                  have hoff' : off = 0 := by simpa using hoff
                  subst hoff'
                  simp only [V.R] at h ⊢
                  rcases h with ⟨g, cap, e, N, i, hg, rfl, h1, h2, h3, hsh, _⟩ | ⟨_, rfl, a', rfl, ha'⟩
                  · obtain ⟨cs, fr, _, hw, _, ⟨h4, h5⟩, _⟩ := (C.holds b blk hb).realS hg hsh
                    have hF : ∀ k ∈ μ.ft b, Ir k := fun k hk => .inr ⟨b, by simpa using hc.1, by omega, ⟨blk, hb⟩, .inr hk⟩
                    have h6 := frzSeg_sound (f := frzIn P s.hp ids hp0.length n) ihO hsub hF h5
                    have h7 := h6.length
                    refine ⟨some ⟨g, 0, none⟩, cap, rfl, h1, by simp, .inr ⟨_, _, rfl⟩, .inr <| .inr ⟨g, 0, rfl, .inr ⟨b, by simpa using hc.1, by omega, ⟨blk, hb⟩, .inl hg⟩, cs, _, fr, hw, ?_⟩⟩
                    rw [List.drop_zero]
                    rw [List.length_take, Nat.min_eq_left (by simpa using h4)] at h7
                    rw [← h7]
                    exact h6
                  · exact ⟨a', 0, rfl, Nat.le_refl _, by simp, ha'.imp (fun h => ⟨h, rfl⟩) id, .inr (.inl rfl)⟩
                · simp [V.R]
              · rename_i hs0
                have hfl := flat_noSeal hs0
                split
                · rename_i sz hsz
                  split
                  · rename_i hl
                    simp only [V.R] at h ⊢
                    rcases h with ⟨g, cap, e, N, i, hg, rfl, h1, h2, h3, hsh, _⟩ | ⟨_, rfl, a', rfl, ha'⟩
                    · obtain ⟨cs, fr, _, hw, _, ⟨h4, h5⟩, _⟩ := (C.holds b blk hb).realS hg hsh
                      have hF : ∀ k ∈ μ.ft b, Ir k := fun k hk => .inr ⟨b, by simpa using hc.1, by omega, ⟨blk, hb⟩, .inr hk⟩
                      have h5 := h5.toXL
                      rw [hfl] at h4 h5
                      refine ⟨some ⟨g, off, none⟩, cap, rfl, h1, by simp, .inr ⟨_, _, rfl⟩, .inr <| .inr ⟨g, off, rfl, .inr ⟨b, by simpa using hc.1, by omega, ⟨blk, hb⟩, .inl hg⟩, cs, _, fr, hw, ?_⟩⟩
                      obtain ⟨F1, F2, hFe, _, h6⟩ := h5.split off
                      obtain ⟨F3, F4, hFe2, h6, _⟩ := h6.split (k * sz)
                      rw [List.length_map, hl]
                      have e1 : (cs.toList.drop off).take (k * sz) = ((cs.toList.take blk.1.length).drop off).take (k * sz) := by
                        simp only [List.length_take, List.length_drop] at hl
                        rw [List.drop_take, List.take_take, Nat.min_eq_left (by omega)]
                      rw [e1]
                      exact ihOL _ F3 _ (fun k hk => hF k (by rw [hFe, hFe2]; simp [hk])) h6
                    · exact ⟨a', 0, rfl, Nat.le_refl _, by simp, ha'.imp (fun h => ⟨h, rfl⟩) id, .inr (.inl rfl)⟩
                  · simp [V.R]
                · simp [V.R]
            · simp [V.R]
        · simp [V.R]
        · simp only [V.R] at h ⊢; obtain ⟨vs, h1, h2⟩ := h; exact ⟨vs, h1, ihL _ _ h2⟩
        · simp only [V.R] at h ⊢; obtain ⟨vs, h1, h2⟩ := h; exact ⟨vs, h1, ihL _ _ h2⟩
        · simp only [V.R] at h ⊢; obtain ⟨vs, h1, h2⟩ := h; exact ⟨vs, h1, ihL _ _ h2⟩
        · simp only [V.R] at h ⊢; obtain ⟨vs, h1, h2⟩ := h; exact ⟨vs, h1, ihL _ _ h2⟩
        · simp only [V.R] at h ⊢
          obtain ⟨a, cap, h1, h2, _, h4, h5⟩ := h
          refine ⟨a, cap, h1, h2, by simp, h4, ?_⟩
          rcases h5 with h5 | h5 | ⟨g, off, k1, k2, k3⟩
          · exact .inl h5
          · exact .inr (.inl h5)
          · obtain ⟨cells, e, fr, k4, k5⟩ := k3
            exact .inr <| .inr ⟨g, off, k1, hsub _ k2, cells, e, fr, k4, k5.keep hE hsub (MuLe.refl _)⟩
        · simp [V.R] at h
        · simp [V.R]
        · rename_i h1 h2 h3 h4 h5 h7 h6 h8 h9
          cases c
          case osl => exact absurd rfl (h8 _ _ _ _)
          case eptr => exact absurd rfl (h9 _ _ _)
          case ptr => exact absurd rfl (h2 _ _)
          case sl => exact absurd rfl (h1 _ _ _ _)
          case agg => exact absurd rfl (h3 _)
          case tup => exact absurd rfl (h4 _)
          case fn => exact absurd rfl (h5 _ _)
          case box => exact absurd rfl (h7 _ _)
          case dsl => exact absurd rfl (h6 _ _ _)
          case dptr => exact (h.keep hE hsub (MuLe.refl _) : V.R P Ir μ w _ u) |> (fun h => by simpa only [V.R] using h)
          all_goals (first | (simp only [V.R] at h; done) | (simp only [V.R]; done) | (simp only [V.R] at h ⊢; exact h))
    have frz_sound : ∀ (n : Nat) (c : V) (u : Value), V.R P Im μ w c u → V.R P Ir μr w (frz P s.hp ids hp0.length n c) u := by
      intro n
      induction n with
      | zero => intro c u _; simp [frz, V.R]
      | succ n ih =>
        have ihL : ∀ (cs : List V) (us : List Value), V.RL P Im μ w cs us → V.RL P Ir μr w (cs.map (frz P s.hp ids hp0.length n)) us := by
          intro cs
          induction cs with
          | nil => intro us h; simpa [V.RL] using h
          | cons c cs ihc =>
            intro us h
            simp only [V.RL] at h
            obtain ⟨u, us', rfl, h1, h2⟩ := h
            simp only [List.map_cons, V.RL]
            exact ⟨u, us', rfl, ih c u h1, ihc us' h2⟩
        intro c u h
        unfold frz
        split
        · rename_i b off k full
          split
          · rename_i j hj
            simp only [V.R] at h ⊢
            rcases h with ⟨g, cap, e, N, i, hg, r⟩ | h
            · exact .inl ⟨g, cap, e, N, i, hρ b j g hj hg, r⟩
            · exact .inr h
          · exact R_up (frzIn_sound (n + 1) _ u h)
        · rename_i b off
          split
          · rename_i j hj
            simp only [V.R] at h ⊢
            obtain ⟨g, hg, r⟩ := h
            exact ⟨g, hρ b j g hj hg, r⟩
          · simp [V.R]
        · rename_i b base rel
          split
          · rename_i j hj
            simp only [V.R] at h ⊢
            obtain ⟨g, hg, r⟩ := h
            exact ⟨g, hρ b j g hj hg, r⟩
          · simp [V.R]
        · simp only [V.R] at h ⊢; obtain ⟨vs, h1, h2⟩ := h; exact ⟨vs, h1, ihL _ _ h2⟩
        · simp only [V.R] at h ⊢; obtain ⟨vs, h1, h2⟩ := h; exact ⟨vs, h1, ihL _ _ h2⟩
        · simp only [V.R] at h ⊢; obtain ⟨vs, h1, h2⟩ := h; exact ⟨vs, h1, ihL _ _ h2⟩
        · simp only [V.R] at h ⊢; obtain ⟨vs, h1, h2⟩ := h; exact ⟨vs, h1, ihL _ _ h2⟩
        · rename_i h1 h2 h7 h3 h4 h5 h6
          cases c
          case eptr => exact absurd rfl (h7 _ _ _)
          case ptr => exact absurd rfl (h2 _ _)
          case sl => exact absurd rfl (h1 _ _ _ _)
          case agg => exact absurd rfl (h3 _)
          case tup => exact absurd rfl (h4 _)
          case fn => exact absurd rfl (h5 _ _)
          case box => exact absurd rfl (h6 _ _)
          case dsl => exact (h.keep hE hsub (MuLe.refl _) : V.R P Ir μ w _ u) |> (fun h => by simpa only [V.R] using h)
          case dptr => exact (h.keep hE hsub (MuLe.refl _) : V.R P Ir μ w _ u) |> (fun h => by simpa only [V.R] using h)
          all_goals (first | (simp only [V.R] at h; done) | (simp only [V.R]; done) | (simp only [V.R] at h ⊢; exact h))
    have hle : MuLe μ0 μr := by
      intro b g hg
      rw [hμr b b (hlow b (C.ent.dom b g hg))]
      exact C.le b g hg
    have hwr : ∀ b, b ∈ ((s.wr.filter fun b => decide (b < hp0.length)).eraseDups) ↔ b ∈ s.wr ∧ b < hp0.length := by intro b; simp
    have hat : ∀ (j : Nat) (blk : Blk), (normSt P hp0.length keep ids s).hp[j]? = some (some blk) → ∃ b, ids[j]? = some b ∧ ((b < hp0.length ∧ b ∉ s.wr ∧ s.hp[b]? = some (some blk)) ∨ ∃ blk0 : Blk, s.hp[b]? = some (some blk0) ∧ blk = (blk0.1.map (frz P s.hp ids hp0.length 100), blk0.2)) := by
      intro j blk h
      simp only [normSt] at h
      rw [List.getElem?_map] at h
      obtain ⟨b, hb, h⟩ := Option.map_eq_some_iff.1 h
      refine ⟨b, hb, ?_⟩
      have hget : ∀ x : Blk, s.hp.getD b none = some x → s.hp[b]? = some (some x) := by
        intro x hx
        rw [List.getD_eq_getElem?_getD] at hx
        cases hq : s.hp[b]? with
        | none => rw [hq] at hx; cases hx
        | some y => rw [hq] at hx; simp at hx; rw [hx]
      split at h
      · rename_i hc
        simp only [Bool.and_eq_true, decide_eq_true_eq, Bool.not_eq_true'] at hc
        exact .inl ⟨hc.1, by simpa using hc.2, hget _ h⟩
      · obtain ⟨blk0, h0, rfl⟩ := Option.map_eq_some_iff.1 h
        exact .inr ⟨blk0, hget _ h0, rfl⟩
    have hat2 : ∀ (j : Nat) (blk : Blk), (normSt P hp0.length keep ids s).hp[j]? = some (some blk) → ∃ (b : Nat) (blk0 : Blk), ids[j]? = some b ∧ s.hp[b]? = some (some blk0) := by
      intro j blk h
      obtain ⟨b, hb, h⟩ := hat j blk h
      rcases h with ⟨_, _, h⟩ | ⟨blk0, h, _⟩
      · exact ⟨b, _, hb, h⟩
      · exact ⟨b, _, hb, h⟩
    have hget : ∀ b, b < hp0.length → s.hp[b]? = some (s.hp.getD b none) := by
      intro b hb
      have : b < s.hp.length := by have := C.len; omega
      rw [List.getD_eq_getElem?_getD, List.getElem?_eq_getElem this]; rfl
    refine ⟨Ir, μr, ?_, fun v u h => frz_sound 100 v u h⟩
    have hfrzO : ∀ c : V, c.isO = true → frz P s.hp ids hp0.length 100 c = c := by
      intro c hc
      cases c <;> first | (simp [V.isO] at hc; done) | rfl
    have hmuNone : ∀ j b, ids[j]? = some b → μ b = none → μr j = none := fun j b h h0 => by rw [hμr j b h]; exact h0
    refine ⟨fun t => ?_, ?_, C.defers, fun j blk h => ?_, fun j k b1 b2 g hne h1 h2 g1 g2 => ?_, fun j g hg => ?_, fun j g hg hj => ?_, fun j hj hn => ?_, ?_, hle, fun j hj blk h g hg => ?_, ?_, fun b hb hn => ?_, fun b hb h => ?_, fun b hb hb0 => ?_, fun k h => .inl (C.isub k h), fun k hk => ?_, C.ilt.step (.refl w (fun _ => False)) (fun _ h => .inl h) fun k hk => ?_, C.ent⟩
    · show V.R P Ir μr w ((normTm P s.hp ids hp0.length s.tm keep ⟨s.tm.n, Tr.mk0 11⟩).get t) _
      have h0 : (⟨s.tm.n, Tr.mk0 11⟩ : Tm).get t = .junk := by
        unfold Tm.get
        cases Nat.blt t s.tm.n
        · rfl
        · exact Tr.mk0_get _ _
      rcases normTm_get (P := P) s.hp ids hp0.length s.tm t keep ⟨s.tm.n, Tr.mk0 11⟩ with h | h | h
      · rw [h, h0]; simp [V.R]
      · rw [h]; simp [V.R]
      · rw [h]; exact frz_sound 100 _ _ (C.tm t)
    · show a.tmps.size = (normTm P s.hp ids hp0.length s.tm keep ⟨s.tm.n, Tr.mk0 11⟩).n
      rw [normTm_n]; exact C.size
    · obtain ⟨b, hb, h⟩ := hat j blk h
      rcases h with ⟨hbl, hnw, h⟩ | ⟨blk0, h0, rfl⟩
      · have hj : j = b := by
          have h1 := pos_of hnd' (hlow b hbl)
          rw [pos_of hnd' hb] at h1
          cases h1; rfl
        subst hj
        have h0 : hp0[j]? = some (some blk) := by rw [← C.frame j hbl hnw]; exact h
        have hfj : μ.ft j = μ0.ft j := C.ftd j hbl hnw
        refine (C.ent.holds j blk h0).keep C.evo (fun k h => .inl (C.isub k h)) hle (fun hn => hmuNone j j hb ?_) ((hft j j hb).trans hfj) (fun g hg hx => ?_) (fun g hg => hnir j blk g (List.mem_of_getElem? hb) h ?_)
        · cases hq : μ j with
          | none => rfl
          | some g => rw [C.dom0 j g hq hbl] at hn; cases hn
        · obtain ⟨c, hcw, hcl, hcg⟩ := hx
          obtain ⟨blk', hca⟩ := C.wal c hcw hcl
          exact C.ent.inj j c _ _ g (by rintro rfl; exact hnw hcw) h0 hca hg hcg
        · rcases hg with hg | hg
          · exact .inl (C.le j g hg)
          · rw [← hfj] at hg; exact .inr hg
      · have h6 : ∀ {F : List Nat} {vs : List Value}, CR P Im μ w F blk0.1 vs → CR P Ir μr w F (blk0.1.map (frz P s.hp ids hp0.length 100)) vs := fun h => mapSeg_sound (f := frz P s.hp ids hp0.length 100) (fun c u h => frz_sound 100 c u h) hfrzO (fun o c => by cases o <;> rfl) hsub h
        have h7 : (flat (blk0.1.map (frz P s.hp ids hp0.length 100))).length = (flat blk0.1).length := by
          exact flat_map_length (fun o c => by cases o <;> rfl) (fun x hx => frz_noS hx) blk0.1
        rcases C.holds b blk0 h0 with ⟨g, cs, fr, hg, hni, hw, h3, ⟨h4, h5⟩, h8, h9⟩ | ⟨k1, k3⟩ | ⟨g, es, ck, c, hg, hni, hw, rfl, h4, h5⟩
        · refine .inl ⟨g, cs, fr, by rw [hμr j b hb]; exact hg, hnir b blk0 g (List.mem_of_getElem? hb) h0 (.inl hg), hw, h3, ⟨?_, ?_⟩, by rw [hft j b hb]; exact h8, fun k hk => ?_⟩
          · show (flat (blk0.1.map (frz P s.hp ids hp0.length 100))).length ≤ _
            rw [h7]; exact h4
          · show CR P Ir μr w (μr.ft j) (blk0.1.map (frz P s.hp ids hp0.length 100)) (List.take (flat (blk0.1.map (frz P s.hp ids hp0.length 100))).length _)
            rw [h7, hft j b hb]; exact h6 h5
          · rw [hft j b hb] at hk
            exact ⟨hnir b blk0 k (List.mem_of_getElem? hb) h0 (.inr hk), (h9 k hk).2⟩
        · exact .inr (.inl ⟨hmuNone j b hb k1, by rw [hft j b hb]; exact k3⟩)
        · exact .inr (.inr ⟨g, es, ck, c, by rw [hμr j b hb]; exact hg, hnir b _ g (List.mem_of_getElem? hb) h0 (.inl hg), hw, rfl, h4.keep (.refl w (fun _ => False)) hsub, by rw [hft j b hb]; exact h5⟩)
    · obtain ⟨b, blk0, hb, h0⟩ := hat2 j b1 h1
      obtain ⟨c, blk1, hc, h1⟩ := hat2 k b2 h2
      refine C.inj b c _ _ g (fun e => hne ?_) h0 h1 (hown j b g hb g1) (hown k c g hc g2)
      subst e
      have h3 := pos_of hnd' hb
      rw [pos_of hnd' hc] at h3
      cases h3; rfl
    · cases hq : ids[j]? with
      | none => simp [μr, hq] at hg
      | some b => simpa [normSt] using (List.getElem?_eq_some_iff.1 hq).1
    · rw [hμr j j (hlow j hj)] at hg
      exact C.dom0 j g hg hj
    · rw [hft j j (hlow j hj)]
      exact C.ftd j hj fun h => hn ((hwr j).2 ⟨h, hj⟩)
    · refine C.evo.mono fun k hk => ?_
      obtain ⟨b, hb, hbl, hg⟩ := hk
      exact ⟨b, (hwr b).2 ⟨hb, hbl⟩, hbl, hg⟩
    · obtain ⟨b, blk0, hb, h0⟩ := hat2 j blk h
      have hj' : hp0.length ≤ b ∨ b ∈ s.wr := by
        rcases hj with hj | hj
        · exact .inl (hhigh j b hj hb)
        · have h3 := (hwr j).1 hj
          rw [hlow j h3.2] at hb; cases hb
          exact .inr h3.1
      rcases C.prov b hj' blk0 h0 g (hown j b g hb hg) with h | ⟨c, hcw, hcl, hcg, hca⟩
      · exact .inl h
      · exact .inr ⟨c, (hwr c).2 ⟨hcw, hcl⟩, hcl, hcg, hca⟩
    · simp only [normSt, List.length_map]; exact hlen
    · have hnw : b ∉ s.wr := fun h => hn ((hwr b).2 ⟨h, hb⟩)
      simp only [normSt]
      rw [List.getElem?_map, hlow b hb]
      simp only [Option.map_some]
      rw [if_pos (by simp [hnw, hb]), ← hget b hb]
      exact C.frame b hb hnw
    · obtain ⟨blk, h⟩ := h
      obtain ⟨c, blk0, hc, h0⟩ := hat2 b blk h
      rw [hlow b hb] at hc; cases hc
      exact C.alive b hb ⟨blk0, h0⟩
    · exact C.wal b ((hwr b).1 hb).1 hb0
    · rcases hk with h | ⟨b, hbi, hbl, ⟨blk, hb⟩, hg⟩
      · rcases C.igrow k h with h | h | ⟨c, hcw, hcl, hcg, hca⟩
        · exact .inl h
        · exact .inr (.inl h)
        · exact .inr (.inr ⟨c, (hwr c).2 ⟨hcw, hcl⟩, hcl, hcg, hca⟩)
      · rcases C.prov b (.inl hbl) blk hb k hg with h | ⟨c, hcw, hcl, hcg, hca⟩
        · exact .inr (.inl h)
        · exact .inr (.inr ⟨c, (hwr c).2 ⟨hcw, hcl⟩, hcl, hcg, hca⟩)
    · rcases hk with h | ⟨b, _, _, ⟨blk, hb⟩, hg⟩
      · exact C.ilt k h
      · exact (C.holds b blk hb).lt hg

theorem norm_weak {m : Nat} {keep ids : List Nat} {s : St} (hp : permOK m ids = true) : Weak P m s (normSt P m keep ids s) :=
  ⟨(norm_weakV hp).st, fun e _ _ _ _ C => by
    obtain ⟨I', μ', h, _⟩ := (norm_weakV (keep := keep) hp).run e C
    exact ⟨I', μ', h⟩⟩

theorem Weak.refl (m : Nat) (s : St) : Weak P m s s := ⟨fun _ _ h => h, fun _ _ _ _ _ C => ⟨_, _, C⟩⟩
theorem Weak.trans {m : Nat} {a b c : St} (h : Weak P m a b) (k : Weak P m b c) : Weak P m a c :=
  ⟨fun hp0 e hs => k.st hp0 e (h.st hp0 e hs), fun e _ _ _ _ C => by
    obtain ⟨_, _, C'⟩ := h.run e C
    exact k.run e C'⟩
structure WeakS (P : Program) (m : Nat) (s s' : St) : Prop where
  st : ∀ hp0 : Hp, hp0.length = m → SR hp0 s → SR hp0 s'
  run : ∀ {hp0 : Hp} {I0 : Nat → Prop} {μ0 : Mu} {w0 : World}, hp0.length = m → ∀ {a : Act} {w : World} {Im : Nat → Prop} {μ : Mu}, CI P hp0 I0 μ0 w0 s a w Im μ → CI P hp0 I0 μ0 w0 s' a w Im μ
theorem WeakS.refl (m : Nat) (s : St) : WeakS P m s s := ⟨fun _ _ h => h, fun _ _ _ _ _ C => C⟩
theorem WeakS.trans {m : Nat} {a b c : St} (h : WeakS P m a b) (k : WeakS P m b c) : WeakS P m a c := ⟨fun hp0 e hs => k.st hp0 e (h.st hp0 e hs), fun e _ _ _ _ C => k.run e (h.run e C)⟩
theorem WeakS.weak {m : Nat} {a b : St} (h : WeakS P m a b) : Weak P m a b := ⟨h.st, fun e _ _ _ _ C => ⟨_, _, h.run e C⟩⟩
theorem flatC_length : ∀ l : List V, (flatC l).length = (flat l).length
  | [] => rfl
  | x :: t => by
    rcases seal_or x with ⟨o, c, rfl⟩ | hx
    · rw [flatC_seal, flat_sealO, List.length_append, List.length_append, flatC_length t]
    · rw [flatC_cons hx, flat_cons hx, List.length_cons, List.length_cons, flatC_length t]
theorem flat_mkS (o : Bool) (c : List V) : flat [mkS o c] = c := by rw [flat_sealO]; simp [flat]
theorem Holds.canS {I : Nat → Prop} {μ : Mu} {w : World} {b : Nat} {blk : Blk} (h : Holds P I μ w b blk) (hr : V.refsL blk.1 = []) : Holds P I μ w b ([mkS (hasO blk.1) (flatC blk.1)], blk.2) := by
  have hl := flatC_length blk.1
  rcases h with ⟨g, cs, fr, h1, h2, h3, h4, ⟨h5, h6⟩, h7, h8⟩ | ⟨h1, h3⟩ | ⟨g, es, ck, c, h1, h2, h3, rfl, h4, h5⟩
  · refine .inl ⟨g, cs, fr, h1, h2, h3, h4, ⟨?_, ?_⟩, h7, h8⟩
    · show (flat [_]).length ≤ _
      rw [flat_mkS, hl]; exact h5
    · show CR P I μ w _ [_] (List.take (flat [_]).length _)
      rw [flat_mkS, hl]
      exact CR.sealedO (h6.canL hr)
  · exact .inr (.inl ⟨h1, h3⟩)
  · exact .inr (.inr ⟨g, es, ck, c, h1, h2, h3, rfl, h4, h5⟩)
theorem seal_same {m b : Nat} {s : St} : WeakS P m s (sealSt m b s) := by
  generalize h : sealSt m b s = s'
  unfold sealSt at h
  split at h
  case h_2 => subst h; exact .refl m s
  case h_1 blk hb =>
  split at h
  case h_2 => subst h; exact .refl m s
  case h_1 hm h2 =>
  subst h
  have hm' : m ≤ b := Nat.le_of_ble_eq_true (by simp only [Bool.and_eq_true] at hm; exact hm.1)
  have hbl : b < s.hp.length := at_lt hb
  have hat : ∀ (k : Nat) (blk' : Blk), (s.hp.set b (some ([mkS (hasO blk.1) (flatC blk.1)], blk.2)))[k]? = some (some blk') → (k = b ∧ blk' = ([mkS (hasO blk.1) (flatC blk.1)], blk.2)) ∨ (k ≠ b ∧ s.hp[k]? = some (some blk')) := by
    intro k blk' h
    rw [List.getElem?_set] at h
    split at h
    · rename_i e
      cases h; exact .inl ⟨e.symm, rfl⟩
    · rename_i e; exact .inr ⟨fun x => e x.symm, h⟩
  have hat2 : ∀ (k : Nat) (blk' : Blk), (s.hp.set b (some ([mkS (hasO blk.1) (flatC blk.1)], blk.2)))[k]? = some (some blk') → ∃ blk0, s.hp[k]? = some (some blk0) := by
    intro k blk' h
    rcases hat k blk' h with ⟨rfl, _⟩ | ⟨_, h⟩
    · exact ⟨_, hb⟩
    · exact ⟨_, h⟩
  have hne : ∀ k, k < m → (s.hp.set b (some ([mkS (hasO blk.1) (flatC blk.1)], blk.2)))[k]? = s.hp[k]? := fun k hk => by rw [List.getElem?_set, if_neg (by omega)]
  constructor
  · intro hp0 e hs
    subst e
    refine ⟨by simpa using hs.len, fun k hk hn => by show (s.hp.set b _)[k]? = _; rw [hne k hk]; exact hs.frame k hk hn, fun k hk ⟨blk', hal⟩ => hs.alive k hk (hat2 k blk' hal)⟩
  · intro hp0 I0 μ0 w0 e a w Im μ C
    subst e
    refine ⟨C.tm, C.size, C.defers, fun k blk' h => ?_, fun k j b1 b2 g hkj h1 h2 g1 g2 => ?_, fun k g hg => by simpa using C.dom k g hg, C.dom0, C.ftd, C.evo, C.le, fun k hk blk' h g hg => ?_, by simpa using C.len, fun k hk hn => by show (s.hp.set b _)[k]? = _; rw [hne k hk]; exact C.frame k hk hn, fun k hk ⟨blk', hal⟩ => C.alive k hk (hat2 k blk' hal), C.wal, C.isub, C.igrow, C.ilt, C.ent⟩
    · rcases hat k blk' h with ⟨rfl, rfl⟩ | ⟨_, h⟩
      · exact (C.holds k blk hb).canS h2
      · exact C.holds k blk' h
    · obtain ⟨_, k1⟩ := hat2 k b1 h1
      obtain ⟨_, k2⟩ := hat2 j b2 h2
      exact C.inj k j _ _ g hkj k1 k2 g1 g2
    · obtain ⟨_, k1⟩ := hat2 k blk' h
      exact C.prov k hk _ k1 g hg

theorem sealAll_same {m : Nat} : ∀ (bs : List Nat) (s : St), WeakS P m s (sealAll m bs s)
  | [], s => .refl m s
  | b :: bs, s => seal_same.trans (sealAll_same bs _)
theorem sealAll_weak {m : Nat} (bs : List Nat) (s : St) : Weak P m s (sealAll m bs s) := (sealAll_same bs s).weak
mutual
def V.ptrs : V → List Nat
  | .ptr b _ => [b]
  | .agg cs => V.ptrsL cs
  | .tup cs => V.ptrsL cs
  | .fn _ cs => V.refsL cs
  | .box _ cs => V.refsL cs
  | _ => []
def V.ptrsL : List V → List Nat
  | [] => []
  | c :: cs => V.ptrs c ++ V.ptrsL cs
end
structure Kp where
  keep : List Nat
  perm : Option (List Nat × List Nat) := none
  wr : List Nat := []
  pk : Option (TypeId → Nat → Option TypeId) := none
  rooms : List Nat := []
  nils : List (Nat × TypeId) := []
def Kp.ids (k : Kp) (m : Nat) (s : St) : List Nat := match k.perm with
  | some p => p.1
  | none => match k.pk with
    | none => reach s.hp 100000 (k.keep.flatMap fun i => (s.tm.get i).refs) (List.range m)
    | some _ => (List.range m ++ (k.keep.flatMap fun i => (s.tm.get i).refs).filter fun b => Nat.ble m b).eraseDups
def Kp.seals (k : Kp) (m : Nat) (s : St) : List Nat := match k.perm with
  | some p => p.2
  | none => (List.range (k.ids m s).length).filter fun j => Nat.ble m j && !((k.keep.flatMap fun i => (s.tm.get i).ptrs) ++ (k.ids m s).flatMap fun b => match s.hp.getD b none with | some blk => V.ptrsL blk.1 | none => []).contains ((k.ids m s).getD j 0)
def wrS (m : Nat) (ws : List Nat) (s : St) : St := match ws with
  | [] => s
  | _ :: _ => match (ws.all fun b => decide (b < m) && (match s.hp[b]? with | some (some _) => true | _ => false)) && s.wr.all fun b => ws.contains b with
    | true => ⟨s.tm, s.hp, ws⟩
    | false => s
theorem wrS_same {m : Nat} {ws : List Nat} {s : St} : WeakS P m s (wrS m ws s) := by
  unfold wrS
  split
  · exact .refl m s
  split
  case h_2 => exact .refl m s
  rename_i hc
  rw [Bool.and_eq_true, List.all_eq_true, List.all_eq_true] at hc
  obtain ⟨h1, h2⟩ := hc
  have hsub : ∀ b ∈ s.wr, b ∈ _ := fun b hb => by simpa only [List.contains_iff_mem] using h2 b hb
  constructor
  · intro hp0 e C
    exact ⟨C.len, fun b hb hn => C.frame b hb fun h => hn (hsub b h), C.alive⟩
  · intro hp0 I0 μ0 w0 e a w Im μ C
    subst e
    refine ⟨C.tm, C.size, C.defers, C.holds, C.inj, C.dom, C.dom0, fun b hb hn => C.ftd b hb fun h => hn (hsub b h), C.evo.mono fun k ⟨b, hb, hg⟩ => ⟨b, hsub b hb, hg⟩, C.le, fun b hb blk hk g hg => ?_, C.len, fun b hb hn => C.frame b hb fun h => hn (hsub b h), C.alive, fun b hb hl => ?_, C.isub, fun k hk => ?_, C.ilt, C.ent⟩
    · by_cases hb' : hp0.length ≤ b ∨ b ∈ s.wr
      · rcases C.prov b hb' blk hk g hg with h | ⟨c, k1, k2⟩
        · exact .inl h
        · exact .inr ⟨c, hsub c k1, k2⟩
      · simp only [not_or, Nat.not_le] at hb'
        have hbw := hb.resolve_left (by omega)
        refine .inr ⟨b, hbw, hb'.1, ?_, C.alive b hb'.1 ⟨_, hk⟩⟩
        rcases hg with hg | hg
        · exact .inl (C.dom0 b g hg hb'.1)
        · rw [C.ftd b hb'.1 hb'.2] at hg; exact .inr hg
    · have := h1 b hb
      rw [Bool.and_eq_true] at this
      refine C.alive b hl ?_
      have h3 := this.2
      split at h3
      · rename_i blk hb; exact ⟨blk, hb⟩
      · cases h3
    · rcases C.igrow k hk with h | h | ⟨c, k1, k2⟩
      · exact .inl h
      · exact .inr (.inl h)
      · exact .inr (.inr ⟨c, hsub c k1, k2⟩)
def gc (P : Program) (m : Nat) (ids seals : List Nat) (v : V) (s : St) : Ret := ⟨V.can (frz P s.hp ids m 100 v), (sealAll m seals (normSt P m [] ids s)).hp, (sealAll m seals (normSt P m [] ids s)).wr⟩

theorem sealAll_wr {m : Nat} : ∀ (bs : List Nat) (s : St), (sealAll m bs s).wr = s.wr
  | [], s => rfl
  | b :: bs, s => by
    unfold sealAll
    rw [sealAll_wr bs]
    unfold sealSt
    split
    · split <;> rfl
    · rfl

theorem CI.good {hp0 : Hp} {I0 Ir : Nat → Prop} {μ0 μr : Mu} {w0 w : World} {s' : St} {a : Act} (C' : CI P hp0 I0 μ0 w0 s' a w Ir μr) :
    ∃ μ2, MuLe μr μ2 ∧ Good P I0 Ir μ0 μ2 w0 w hp0 s'.hp (List.range hp0.length) s'.wr := by
  let μ2 : Mu := ⟨μr.nm, fun b => if b < s'.hp.length then μr.ft b else μ0.ft b⟩
  have hle : MuLe μr μ2 := fun _ _ h => h
  have hft : ∀ b, b < s'.hp.length → μ2.ft b = μr.ft b := fun b h => by simp [μ2, h]
  have hlt : ∀ b blk, s'.hp[b]? = some (some blk) → b < s'.hp.length := fun b blk h => (List.getElem?_eq_some_iff.1 h).1
  have hown : ∀ b g, b < s'.hp.length → μ2.own b g → μr.own b g := fun b g h hg => by
    rcases hg with hg | hg
    · exact .inl hg
    · rw [hft b h] at hg; exact .inr hg
  have hlen : hp0.length ≤ s'.hp.length := C'.len
  refine ⟨μ2, hle, ⟨C'.isub, fun k hk => ?_, C'.evo.mono fun k ⟨b, hb, _, hg⟩ => ⟨b, hb, hg⟩, fun b g h => C'.le b g h, fun b g hg => ?_, fun b hb hn => ?_, fun b _ blk h => ?_, fun b hb blk h g hg => ?_, fun b c b1 b2 g hne _ _ h1 h2 g1 g2 => C'.inj b c b1 b2 g hne h1 h2 (hown b g (hlt b b1 h1) g1) (hown c g (hlt c b2 h2) g2)⟩⟩
  · rcases C'.igrow k hk with h | h | ⟨c, hcw, hcl, hcg, hca⟩
    · exact .inl h
    · exact .inr (.inl ⟨h, C'.ilt k hk⟩)
    · exact .inr (.inr ⟨c, hcw, hcg, hca⟩)
  · by_cases hb : b < hp0.length
    · exact .inl (C'.dom0 b g hg hb)
    · exact .inr ⟨by omega, C'.dom b g hg⟩
  · by_cases hl : b < s'.hp.length
    · rw [hft b hl]
      exact C'.ftd b (by omega) hb
    · simp [μ2, hl]
  · exact (C'.holds b blk h).keep (.refl w (fun _ => False)) (.refl _) hle (fun h => h) (hft b (hlt b blk h)) (fun _ _ h => h) (fun g hg => (C'.holds b blk h).nimm hg)
  · rcases C'.prov b hb blk h g (hown b g (hlt b blk h) hg) with h | ⟨c, hcw, hcl, hcg, hca⟩
    · exact .inl h
    · exact .inr ⟨c, hcw, hcg, hca⟩
theorem gc_sound {hp0 : Hp} {I0 Im : Nat → Prop} {μ0 μ : Mu} {w0 w : World} {s : St} {a : Act} {v : V} {val : Value} {ids seals : List Nat} (hp : permOK hp0.length ids = true) (C : CI P hp0 I0 μ0 w0 s a w Im μ) (hv : V.R P Im μ w v val) :
    ∃ μr Ir, V.R P Ir μr w (gc P hp0.length ids seals v s).v val ∧ Good P I0 Ir μ0 μr w0 w hp0 (gc P hp0.length ids seals v s).hp (List.range hp0.length) (gc P hp0.length ids seals v s).wr := by
  obtain ⟨Ir, μr, C1, hV⟩ := (norm_weakV (keep := []) hp).run rfl C
  obtain ⟨μ2, hle, G⟩ := ((sealAll_same (P := P) seals (normSt P hp0.length [] ids s)).run rfl C1).good
  exact ⟨μ2, Ir, (R_can _ _ (hV _ _ hv)).keep (.refl w (fun _ => False)) (.refl _) hle, G⟩
theorem gc_tidy {hp0 : Hp} {s : St} {v : V} {ids seals : List Nat} (hp : permOK hp0.length ids = true) (C : SR hp0 s) : FnTidy hp0 (gc P hp0.length ids seals v s) := by
  have C' := (sealAll_same (P := P) seals (normSt P hp0.length [] ids s)).st hp0 rfl ((norm_weakV (P := P) (keep := []) hp).st hp0 rfl C)
  exact ⟨C'.len, fun b hb hn => C'.frame b hb hn, fun b hb => by simp only [gc, sealAll_wr, normSt, List.mem_eraseDups, List.mem_filter, decide_eq_true_eq] at hb; exact hb.2, C'.alive⟩

end
end Go.Proofs.YtfncaghjfgnnhaaGreatDoor

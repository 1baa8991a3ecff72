/-
  The small evaluator: what is proved of a block that is sealed holds of one that is not.
-/
import Derived.Test.YtopebociobgmhaaUt
namespace Go.Proofs.Ytopebociobgmhaa
open Go.RowKit

section
variable {P : Program}

theorem set_at {hp : Hp} {b : Nat} {X Y : Blk} (hb : hp[b]? = some (some X)) {k : Nat} {blk : Blk} (h : (hp.set b (some Y))[k]? = some (some blk)) : (k = b ∧ blk = Y) ∨ (k ≠ b ∧ hp[k]? = some (some blk)) := by
  rw [List.getElem?_set] at h
  split at h
  · rename_i e
    split at h
    · cases h; exact .inl ⟨e.symm, rfl⟩
    · cases h
  · rename_i e; exact .inr ⟨fun x => e x.symm, h⟩
theorem set_back {hp : Hp} {b : Nat} {X Y : Blk} (hb : hp[b]? = some (some X)) {k : Nat} {blk : Blk} (h : (hp.set b (some Y))[k]? = some (some blk)) : ∃ blk0, hp[k]? = some (some blk0) := by
  rcases set_at hb h with ⟨rfl, _⟩ | ⟨_, h⟩
  · exact ⟨_, hb⟩
  · exact ⟨_, h⟩
theorem set_fwd {hp : Hp} {b : Nat} {X Y : Blk} (hb : hp[b]? = some (some X)) {k : Nat} {blk : Blk} (h : hp[k]? = some (some blk)) : ∃ blk0, (hp.set b (some Y))[k]? = some (some blk0) := by
  rw [List.getElem?_set]
  split
  · rename_i e
    rw [if_pos (by subst e; exact at_lt hb)]
    exact ⟨_, rfl⟩
  · exact ⟨_, h⟩
theorem set_none {hp : Hp} {b : Nat} {X Y : Blk} (hb : hp[b]? = some (some X)) {k : Nat} (h : hp[k]? = some none) : (hp.set b (some Y))[k]? = some none := by
  rw [List.getElem?_set, if_neg (by rintro rfl; rw [hb] at h; cases h)]
  exact h

theorem CR.unsl {I : Nat → Prop} {μ : Mu} {w : World} : ∀ {l : List V} {vs : List Value}, V.RL P I noMu w (flat l) vs → CR P I μ w l vs
  | [], _, h => by simpa [CR, flat, V.RL] using h
  | x :: t, vs, h => by
    rcases seal_or x with ⟨c, rfl⟩ | hx
    · rw [flat_seal] at h
      have hl := h.length
      rw [List.length_append] at hl
      refine CR.seal_iff.2 ⟨vs.take c.length, vs.drop c.length, by simp, ?_, CR.unsl ?_⟩
      · have := h.take c.length
        rwa [List.take_left] at this
      · have := h.drop c.length
        rwa [List.drop_left] at this
    · rw [flat_cons hx] at h
      simp only [V.RL] at h
      obtain ⟨u, us, rfl, h1, h2⟩ := h
      exact (CR.cons_iff hx).2 ⟨u, us, rfl, R_up h1, CR.unsl h2⟩
theorem Holds.unsl {I : Nat → Prop} {μ : Mu} {w : World} {b : Nat} {c : List V} {T : TypeId} (h : Holds P I μ w b ([.sld (flat c)], T)) : Holds P I μ w b (c, T) := by
  obtain ⟨g, cs, fr, k1, k2, k3, k4, k5, k6⟩ := h
  simp only [flat_sealed] at k5 k6
  refine ⟨g, cs, fr, k1, k2, k3, k4, k5, CR.unsl ?_⟩
  obtain ⟨us, vs', e, h1, h2⟩ := CR.seal_iff.1 k6
  simp only [CR] at h2
  subst h2
  rw [List.append_nil] at e
  rw [e]; exact h1
theorem Holds.toSeal {I : Nat → Prop} {μ : Mu} {w : World} {b : Nat} {c : List V} {T : TypeId} (h : Holds P I μ w b (c, T)) (hr : V.refsL c = []) : Holds P I μ w b ([.sld (flat c)], T) := by
  obtain ⟨g, cs, fr, k1, k2, k3, k4, k5, k6⟩ := h
  exact .sld k1 k2 k3 k4 k5 (k6.nomu hr)

theorem FnOK.unsl {f : FuncId} {vs : List V} {hp : Hp} {r : Ret} {b : Nat} {c : List V} {T : TypeId} (h : FnOK P f vs hp r) (hb : hp[b]? = some (some ([.sld (flat c)], T))) (hr : V.refsL c = []) (hw : b ∉ r.wr) :
    FnOK P f vs (hp.set b (some (c, T))) ⟨r.v, r.hp.set b (some (c, T)), r.wr⟩ := by
  obtain ⟨ht, hmain⟩ := h
  have hbl := at_lt hb
  have hrb : r.hp[b]? = some (some ([.sld (flat c)], T)) := by rw [ht.frame b hbl hw]; exact hb
  constructor
  · refine ⟨by simpa using ht.len, fun k hk hn => ?_, fun k hk => by simpa using ht.wrb k hk, fun k hk ⟨blk, hal⟩ => ?_⟩
    · simp only [List.length_set] at hk
      show (r.hp.set b _)[k]? = _
      rw [List.getElem?_set, List.getElem?_set]
      split
      · simp [at_lt hrb, hbl]
      · exact ht.frame k hk hn
    · simp only [List.length_set] at hk
      obtain ⟨blk0, h0⟩ := set_back hrb hal
      obtain ⟨blk1, h1⟩ := ht.alive k hk ⟨blk0, h0⟩
      exact set_fwd hb h1
  · intro I w μ vals hvals pre hdom
    simp only [List.length_set] at pre hdom
    have pre' : Pre P I μ w hp (List.range hp.length) r.hp.length := by
      refine ⟨pre.ilt, fun k hk blk hkb => ?_, fun k hk j hj b1 b2 g hne h1 h2 g1 g2 => ?_, fun k h1 h2 => pre.fresh k (by simpa using h1) h2⟩
      · by_cases e : k = b
        · subst e
          rw [hb] at hkb; cases hkb
          exact (pre.holds k hk (c, T) (by rw [List.getElem?_set, if_pos rfl, if_pos hbl])).toSeal hr
        · exact pre.holds k hk blk (by rw [List.getElem?_set, if_neg (fun x => e x.symm)]; exact hkb)
      · obtain ⟨_, k1⟩ := set_fwd (Y := (c, T)) hb h1
        obtain ⟨_, k2⟩ := set_fwd (Y := (c, T)) hb h2
        exact pre.inj k hk j hj _ _ g hne k1 k2 g1 g2
    refine (hmain I w μ vals hvals pre' hdom).mono fun e w' ⟨val, μ', I', he, hR, G⟩ => ⟨val, μ', I', he, hR, ?_⟩
    refine ⟨G.isub, fun k hk => ?_, G.evo, G.le, fun k g hg => by simpa using G.dom k g hg, fun k hk blk hkb => ?_, fun k hk blk hkb g hg => ?_, fun k j b1 b2 g hne hk hj h1 h2 g1 g2 => ?_⟩
    · rcases G.igrow k hk with h | h | ⟨d, h1, h2, ⟨blk, h3⟩, h4⟩
      · exact .inl h
      · exact .inr (.inl h)
      · exact .inr (.inr ⟨d, h1, h2, set_fwd hb h3, set_none hrb h4⟩)
    · simp only [List.length_set] at hk
      rcases set_at hrb hkb with ⟨rfl, rfl⟩ | ⟨_, hkb⟩
      · exact (G.holds k hk _ hrb).unsl
      · exact G.holds k hk blk hkb
    · simp only [List.length_set] at hk
      obtain ⟨blk0, k1⟩ := set_back hrb hkb
      rcases G.prov k hk blk0 k1 g hg with h | ⟨d, h1, h2, ⟨blk, h3⟩, h4⟩
      · exact .inl h
      · exact .inr ⟨d, h1, h2, set_fwd hb h3, set_none hrb h4⟩
    · simp only [List.length_set] at hk hj
      obtain ⟨_, k1⟩ := set_back hrb h1
      obtain ⟨_, k2⟩ := set_back hrb h2
      exact G.inj k j _ _ g hne hk hj k1 k2 g1 g2

/-- More may be said to be written. -/
theorem FnOK.more {f : FuncId} {vs : List V} {hp : Hp} {r : Ret} {wr : List Nat} (h : FnOK P f vs hp r) (h1 : ∀ b ∈ r.wr, b ∈ wr) (h2 : ∀ b ∈ wr, b < hp.length) : FnOK P f vs hp ⟨r.v, r.hp, wr⟩ := by
  obtain ⟨ht, hmain⟩ := h
  refine ⟨⟨ht.len, fun b hb hn => ht.frame b hb fun h => hn (h1 b h), h2, ht.alive⟩, fun I w μ vals hvals pre hdom => (hmain I w μ vals hvals pre hdom).mono fun e w' ⟨val, μ', I', he, hR, G⟩ => ⟨val, μ', I', he, hR, ?_⟩⟩
  refine ⟨G.isub, fun k hk => ?_, G.evo.mono fun k ⟨b, hb, hg⟩ => ⟨b, h1 b hb, hg⟩, G.le, G.dom, G.holds, fun k hk blk hkb g hg => ?_, G.inj⟩
  · rcases G.igrow k hk with h | h | ⟨d, k1, k2⟩
    · exact .inl h
    · exact .inr (.inl h)
    · exact .inr (.inr ⟨d, h1 d k1, k2⟩)
  · rcases G.prov k hk blk hkb g hg with h | ⟨d, k1, k2⟩
    · exact .inl h
    · exact .inr ⟨d, h1 d k1, k2⟩

/-- The result is r, but for what is said to be written. -/
def RetLe (r' r : Ret) : Prop := r'.v = r.v ∧ r'.hp = r.hp ∧ ∀ b ∈ r'.wr, b ∈ r.wr
theorem fnOK_TL {E : Env} (hm : E.P.follows .mixedOrders = true) (hn : Named E.P) {mode : Nat} {f : FuncId} {vs : List V} {hp : Hp} {r : Ret} {t : T Ret} (e : fnT E mode f vs hp = t) (hw : ∀ b ∈ r.wr, b < hp.length) (h : t.WP (RetLe · r)) : FnOK E.P f vs hp r := by
  subst e
  obtain ⟨r', h1, h2, h3, h4⟩ := fnT_ok hm hn h
  have := h1.more h4 hw
  rw [h2, h3] at this
  exact this

end
end Go.Proofs.Ytopebociobgmhaa

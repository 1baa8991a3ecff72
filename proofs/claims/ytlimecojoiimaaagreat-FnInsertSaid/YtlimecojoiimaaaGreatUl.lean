/-
  The small evaluator: a region in whatever order.
-/
import Derived.Test.YtlimecojoiimaaaGreatUk
namespace Go.Proofs.YtlimecojoiimaaaGreat
open Go.RowKit

section
variable {P : Program} {ops : Array Oper} {sn : Nat → St} {ac wr : Nat → List Nat}

def tmc (ops : Array Oper) (sn : Nat → St) (L : Nat → Bool) (t : Nat) : V := lw (touchT ops t) (fun i => (sn i).tm.get t) L ops.size
def hc (ops : Array Oper) (sn : Nat → St) (wr : Nat → List Nat) (L : Nat → Bool) (b : Nat) : Option (Option Blk) := lw (touchB sn wr b) (fun i => (sn i).hp[b]?) L ops.size

/-- What holds while a region runs: L has run. -/
structure RI (P : Program) (ops : Array Oper) (sn : Nat → St) (wr : Nat → List Nat) (W : List Nat) (I0 : Nat → Prop) (μ0 : Mu) (w0 : World) (L : Nat → Bool) (a : Act) (w : World) (Im : Nat → Prop) (μ : Mu) : Prop where
  tm : ∀ t, V.R P Im μ w (tmc ops sn L t) (a.tmps.getD t undef)
  size : a.tmps.size = (sn 0).tm.n
  defers : a.defers = []
  holds : ∀ b blk, hc ops sn wr L b = some (some blk) → Holds P Im μ w b blk
  inj : ∀ b c blk blk' g, b ≠ c → hc ops sn wr L b = some (some blk) → hc ops sn wr L c = some (some blk') → μ b = some g → μ c = some g → False
  dom : ∀ b g, μ b = some g → μ0 b = some g ∨ ∃ i, L i = true ∧ i < ops.size ∧ (sn i).hp.length ≤ b ∧ b < (sn (i + 1)).hp.length
  evo : Evo I0 w0 w (fun k => ∃ b ∈ W, μ0 b = some k)
  le : MuLe μ0 μ
  prov : ∀ b, (sn 0).hp.length ≤ b → ∀ blk, hc ops sn wr L b = some (some blk) → ∀ g, μ b = some g → w0.heap.size ≤ g ∨ ∃ c ∈ W, μ0 c = some g ∧ Alive (sn 0).hp c ∧ hc ops sn wr L c = some none
  isub : Sub I0 Im
  igrow : ∀ k, Im k → I0 k ∨ w0.heap.size ≤ k ∨ ∃ c ∈ W, μ0 c = some k ∧ Alive (sn 0).hp c ∧ hc ops sn wr L c = some none
  ilt : ∀ k, Im k → k < w.heap.size

theorem apart_rev {x y : Oper} (h : x.apart ops y = true) : (∀ d, x.dst = some d → d ∉ y.looksAt ops) ∧ (∀ d, x.dst = some d → y.dst ≠ some d) ∧ (∀ d, y.dst = some d → d ∉ x.looksAt ops) := Oper.apart_spec h

theorem touch_back (hr : Run P ops sn ac wr) {b i : Nat} {o : Oper} (ho : ops[i]? = some o) (h : touchB sn wr b i = false) : (sn (i + 1)).hp[b]? = (sn i).hp[b]? := by
  obtain ⟨ht, _, _⟩ := hr.parts i o ho
  simp only [touchB, Bool.or_eq_false_iff, Bool.and_eq_false_iff, decide_eq_false_iff_not] at h
  rcases Nat.lt_or_ge b (sn i).hp.length with hb | hb
  · exact ht.frame b hb (by simpa using h.1)
  · rw [List.getElem?_eq_none hb, List.getElem?_eq_none (by omega)]

/-- Whatever order: one operation more. -/
theorem ri_step (hn : Named P) (hr : Run P ops sn ac wr) {W : List Nat} {I0 Im : Nat → Prop} {μ0 : Mu} {w0 : World} {L : Nat → Bool} {a : Act} {w : World} {μ : Mu} {j : Nat} {o : Oper}
    (hW : ∀ i, i < ops.size → ∀ b ∈ wr i, b ∈ W) (hdom0 : ∀ b g, μ0 b = some g → b < (sn 0).hp.length)
    (ho : ops[j]? = some o) (hj : L j = false)
    (h1 : ∀ i oi, i < j → ops[i]? = some oi → L i = false → oi.apart ops o = true ∧ (∀ b ∈ ac j, touchB sn wr b i = false) ∧ (∀ b ∈ wr j, b ∉ ac i))
    (h2 : ∀ i oi, j < i → ops[i]? = some oi → L i = true → o.apart ops oi = true ∧ (∀ b ∈ ac i, touchB sn wr b j = false) ∧ (∀ b ∈ wr i, b ∉ ac j))
    (I : RI P ops sn wr W I0 μ0 w0 L a w Im μ) {K : Act → World → Prop} {Q : Exit → Act → World → Prop}
    (hK : ∀ a' w' μ' Im', RI P ops sn wr W I0 μ0 w0 (addL L j) a' w' Im' μ' → K a' w') : wpOp P ops Q j K a w := by
  have hjs : j < ops.size := (Array.getElem?_eq_some_iff.1 ho).1
  obtain ⟨callF, hbd, hcall, hstep⟩ := hr.step j o ho
  obtain ⟨htidy, _, vt, htm⟩ := step_parts hcall hstep
  have hat : ∀ i, i < ops.size → ∃ oi, ops[i]? = some oi := fun i hi => ⟨_, Array.getElem?_eq_getElem hi⟩
  have hTd : ∀ i, i < ops.size → Tidy (sn i).hp (sn (i + 1)).hp (ac i) (wr i) := fun i hi => by
    obtain ⟨oi, hoi⟩ := hat i hi
    exact (hr.parts i oi hoi).1
  have hmono : ∀ i k, i ≤ k → k ≤ ops.size → (sn i).hp.length ≤ (sn k).hp.length := fun i k => lens hr
  -- the temporaries that it looks at
  have hlook : ∀ t, t ∈ o.looksAt ops → tmc ops sn L t = (sn j).tm.get t := by
    intro t ht
    unfold tmc
    rw [lw_skip (j := j) (by omega) (fun i hi hin htt => ?_)]
    · refine lw_full (fun i hi htt => ?_) (fun i hi htt => ?_)
      · cases hL : L i with
        | true => rfl
        | false =>
          obtain ⟨oi, hoi⟩ := hat i (by omega)
          have hd : oi.dst = some t := by simpa [touchT, hoi] using htt
          exact absurd ht ((Oper.apart_spec (h1 i oi hi hoi hL).1).1 t hd)
      · obtain ⟨oi, hoi⟩ := hat i (by omega)
        obtain ⟨_, _, v, hv⟩ := hr.parts i oi hoi
        have hd : oi.dst ≠ some t := by simpa [touchT, hoi] using htt
        show (sn (i + 1)).tm.get t = _
        rw [hv, putV_ne hd]
    · cases hL : L i with
      | false => rfl
      | true =>
        rcases Nat.lt_or_ge j i with hlt | hge
        · obtain ⟨oi, hoi⟩ := hat i hin
          have hd : oi.dst = some t := by simpa [touchT, hoi] using htt
          exact absurd ht ((Oper.apart_spec (h2 i oi hlt hoi hL).1).2.2 t hd)
        · have : i = j := by omega
          rw [this, hj] at hL; cases hL
  -- the blocks that it comes to
  have hblk : ∀ b ∈ ac j, hc ops sn wr L b = (sn j).hp[b]? := by
    intro b hb
    have hbl := htidy.accb b hb
    unfold hc
    rw [lw_skip (j := j) (by omega) (fun i hi hin htt => ?_)]
    · refine lw_full (fun i hi htt => ?_) (fun i hi htt => ?_)
      · cases hL : L i with
        | true => rfl
        | false =>
          obtain ⟨oi, hoi⟩ := hat i (by omega)
          rw [(h1 i oi hi hoi hL).2.1 b hb] at htt; cases htt
      · obtain ⟨oi, hoi⟩ := hat i (by omega)
        exact touch_back hr hoi htt
    · cases hL : L i with
      | false => rfl
      | true =>
        rcases Nat.lt_or_ge j i with hlt | hge
        · obtain ⟨oi, hoi⟩ := hat i hin
          have hm := hmono j i (by omega) (by omega)
          simp only [touchB, Bool.or_eq_true, Bool.and_eq_true, decide_eq_true_eq] at htt
          rcases htt with htt | htt
          · exact absurd hb ((h2 i oi hlt hoi hL).2.2 b (by simpa using htt))
          · omega
        · have : i = j := by omega
          rw [this, hj] at hL; cases hL
  -- the temporaries behind it
  have htm' : ∀ t, touchT ops t j = true → tmc ops sn (addL L j) t = (sn (j + 1)).tm.get t := by
    intro t ht
    refine lw_add_eq hjs ht fun i hi hin htt => ?_
    cases hL : L i with
    | false => rfl
    | true =>
      obtain ⟨oi, hoi⟩ := hat i hin
      have hd : oi.dst = some t := by simpa [touchT, hoi] using htt
      have hd' : o.dst = some t := by simpa [touchT, ho] using ht
      exact absurd hd ((Oper.apart_spec (h2 i oi hi hoi hL).1).2.1 t hd')
  have htmn : ∀ t, touchT ops t j = false → tmc ops sn (addL L j) t = tmc ops sn L t := fun t ht => lw_add_ne ht _
  have hhn : ∀ b, touchB sn wr b j = false → hc ops sn wr (addL L j) b = hc ops sn wr L b := fun b hb => lw_add_ne hb _
  have hh' : ∀ b, touchB sn wr b j = true → hc ops sn wr (addL L j) b = (sn (j + 1)).hp[b]? := by
    intro b hb
    refine lw_add_eq hjs hb fun i hi hin htt => ?_
    cases hL : L i with
    | false => rfl
    | true =>
      obtain ⟨oi, hoi⟩ := hat i hin
      have hm := hmono (j + 1) i (by omega) (by omega)
      have hml := htidy.len
      simp only [touchB, Bool.or_eq_true, Bool.and_eq_true, decide_eq_true_eq] at htt
      rcases htt with htt | htt
      · have hbi : b ∈ ac i := (hTd i hin).wracc b (by simpa using htt)
        rw [(h2 i oi hi hoi hL).2.1 b hbi] at hb; cases hb
      · simp only [touchB, Bool.or_eq_true, Bool.and_eq_true, decide_eq_true_eq] at hb
        rcases hb with hb | hb
        · have := htidy.accb b (htidy.wracc b (by simpa using hb)); omega
        · omega
  have hacc' : ∀ b ∈ ac j, hc ops sn wr (addL L j) b = (sn (j + 1)).hp[b]? := by
    intro b hb
    cases ht : touchB sn wr b j with
    | true => exact hh' b ht
    | false => rw [hhn b ht, hblk b hb, touch_back hr ho ht]
  have hnew : ∀ b, (sn j).hp.length ≤ b → b < (sn (j + 1)).hp.length → hc ops sn wr (addL L j) b = (sn (j + 1)).hp[b]? := fun b hb hb' => hh' b (by simp [touchB, hb, hb'])
  have hfresh : ∀ b, (sn j).hp.length ≤ b → b < (sn (j + 1)).hp.length → μ b = none := by
    intro b hb hb'
    cases hm : μ b with
    | none => rfl
    | some g =>
      rcases I.dom b g hm with h | ⟨i, hL, hin, hib, hib'⟩
      · have := hdom0 b g h
        have := hmono 0 j (by omega) (by omega)
        omega
      · exfalso
        rcases Nat.lt_trichotomy i j with hlt | rfl | hgt
        · have := hmono (i + 1) j (by omega) (by omega); omega
        · rw [hj] at hL; cases hL
        · have := hmono (j + 1) i (by omega) (by omega); omega
  have hopr : ∀ x ∈ o.op.operands, V.R P Im μ w (evalV (sn j).tm x) (a.eval x) := by
    intro x hx
    cases x with
    | tmp t =>
      simp only [evalV, Act.eval]
      rw [← hlook t (by unfold Oper.looksAt; exact List.mem_append.2 (.inl (List.mem_filterMap.2 ⟨.tmp t, by simpa using hx, rfl⟩)))]
      exact I.tm t
    | const v => exact R_ofValue v
    | global g => simp [evalV, V.R]
    | func f => simp [evalV, Act.eval, V.R, V.RL]
  -- the step for whatever it comes to
  have fin : ∀ (vv : V) (val : Value) (w' : World) (μ' : Mu) (Im' : Nat → Prop), (sn (j + 1)).tm = putV (sn j).tm o.dst vv → V.R P Im' μ' w' vv val → Good P Im Im' μ μ' w w' (sn j).hp (sn (j + 1)).hp (ac j) (wr j) →
      RI P ops sn wr W I0 μ0 w0 (addL L j) (a.put o.dst val) w' Im' μ' := by
    intro vv val w' μ' Im' hvv hR hG
    have hkeep : ∀ c v, V.R P Im μ w c v → V.R P Im' μ' w' c v := fun c v h => h.keep hG.evo hG.isub hG.le
    have hlt0 : (sn 0).hp.length ≤ (sn j).hp.length := hmono 0 j (by omega) (by omega)
    have halive : ∀ b, b ∈ wr j → ∃ blk, hc ops sn wr L b = some (some blk) := by
      intro b hb
      obtain ⟨blk, h⟩ := htidy.walive b hb
      exact ⟨blk, by rw [hblk b (htidy.wracc b hb)]; exact h⟩
    -- a block of the new state is one that the step came to, or an old one
    have hsplit : ∀ b blk, hc ops sn wr (addL L j) b = some (some blk) → ((b ∈ ac j ∨ (sn j).hp.length ≤ b) ∧ b < (sn (j + 1)).hp.length ∧ (sn (j + 1)).hp[b]? = some (some blk)) ∨ (b ∉ ac j ∧ touchB sn wr b j = false ∧ hc ops sn wr L b = some (some blk)) := by
      intro b blk h
      by_cases hb : b ∈ ac j
      · rw [hacc' b hb] at h; exact .inl ⟨.inl hb, at_lt h, h⟩
      · cases ht : touchB sn wr b j with
        | true =>
          rw [hh' b ht] at h
          simp only [touchB, Bool.or_eq_true, Bool.and_eq_true, decide_eq_true_eq] at ht
          rcases ht with ht | ht
          · exact absurd (htidy.wracc b (by simpa using ht)) hb
          · exact .inl ⟨.inr ht.1, ht.2, h⟩
        | false => rw [hhn b ht] at h; exact .inr ⟨hb, rfl, h⟩
    have hmu : ∀ b g, touchB sn wr b j = false → μ' b = some g → μ b = some g := by
      intro b g hb hg
      rcases hG.dom b g hg with h | ⟨h3, h4⟩
      · exact h
      · simp [touchB, h3, h4] at hb
    have dead : ∀ c, hc ops sn wr L c = some none → hc ops sn wr (addL L j) c = some none := by
      intro c hcn
      cases ht : touchB sn wr c j with
      | false => rw [hhn c ht]; exact hcn
      | true =>
        exfalso
        have ht' := ht
        simp only [touchB, Bool.or_eq_true, Bool.and_eq_true, decide_eq_true_eq] at ht
        rcases ht with ht | ht
        · obtain ⟨blk, hal⟩ := halive c (by simpa using ht)
          rw [hal] at hcn; cases hcn
        · -- not yet there
          have : hc ops sn wr L c = (sn j).hp[c]? := by
            unfold hc
            rw [lw_skip (j := j) (by omega) (fun i hi hin htt => ?_)]
            · refine lw_full (fun i hi htt => ?_) (fun i hi htt => ?_)
              · cases hL : L i with
                | true => rfl
                | false =>
                  simp only [touchB, Bool.or_eq_true, Bool.and_eq_true, decide_eq_true_eq] at htt
                  have hm := hmono (i + 1) j (by omega) (by omega)
                  rcases htt with htt | htt
                  · have := (hTd i (by omega)).accb c ((hTd i (by omega)).wracc c (by simpa using htt))
                    have := hmono i j (by omega) (by omega); omega
                  · omega
              · obtain ⟨oi, hoi⟩ := hat i (by omega)
                exact touch_back hr hoi htt
            · cases hL : L i with
              | false => rfl
              | true =>
                rcases Nat.lt_or_ge j i with hlt | hge
                · obtain ⟨oi, hoi⟩ := hat i hin
                  have hm := hmono (j + 1) i (by omega) (by omega)
                  simp only [touchB, Bool.or_eq_true, Bool.and_eq_true, decide_eq_true_eq] at htt
                  rcases htt with htt | htt
                  · have hbi : c ∈ ac i := (hTd i hin).wracc c (by simpa using htt)
                    rw [(h2 i oi hlt hoi hL).2.1 c hbi] at ht'; cases ht'
                  · omega
                · have : i = j := by omega
                  rw [this, hj] at hL; cases hL
          rw [this, List.getElem?_eq_none ht.1] at hcn; cases hcn
    have fromW : ∀ c k, c ∈ wr j → μ c = some k → (sn (j + 1)).hp[c]? = some none → w0.heap.size ≤ k ∨ ∃ c ∈ W, μ0 c = some k ∧ Alive (sn 0).hp c ∧ hc ops sn wr (addL L j) c = some none := by
      intro c g hcw hcg hcn
      have hca := htidy.walive c hcw
      obtain ⟨b3, hb3⟩ := halive c hcw
      rcases Nat.lt_or_ge c (sn 0).hp.length with hc0 | hc0
      · right
        have hcg0 : μ0 c = some g := by
          rcases I.dom c g hcg with h | ⟨i, _, hi, h3, _⟩
          · exact h
          · have := hmono 0 i (by omega) (by omega); omega
        refine ⟨c, hW j hjs c hcw, hcg0, ?_, by rw [hacc' c (htidy.wracc c hcw)]; exact hcn⟩
        have : ∀ i, i ≤ ops.size → Alive (sn i).hp c → Alive (sn 0).hp c := by
          intro i
          induction i with
          | zero => intro _ h; exact h
          | succ i ih =>
            intro hi ⟨blk, hal⟩
            refine ih (by omega) ?_
            by_cases hw : c ∈ wr i
            · exact (hTd i (by omega)).walive c hw
            · rw [(hTd i (by omega)).frame c (by have := hmono 0 i (by omega) (by omega); omega) hw] at hal; exact ⟨_, hal⟩
        exact this j (by omega) hca
      · rcases I.prov c hc0 b3 hb3 g hcg with h | ⟨d, hdW, hdg, hda, hdn⟩
        · exact .inl h
        · exact .inr ⟨d, hdW, hdg, hda, dead d hdn⟩
    refine ⟨fun t => ?_, ?_, ?_, fun b blk h => ?_, fun b c b1 b2 g hne hb1 hb2 g1 g2 => ?_, fun b g hg => ?_, ?_, I.le.trans hG.le, fun b hb blk h g hg => ?_, fun k h => hG.isub k (I.isub k h), fun k hk => ?_, fun k hk => ?_⟩
    · cases ht : touchT ops t j with
      | false =>
        rw [htmn t ht]
        have hd : o.dst ≠ some t := by simpa [touchT, ho] using ht
        have e : (a.put o.dst val).tmps.getD t undef = a.tmps.getD t undef := by
          cases hod : o.dst with
          | none => rfl
          | some d =>
            have hdt : d ≠ t := fun e => hd (by rw [hod, e])
            simp [Act.put, Array.getElem?_setIfInBounds, hdt]
        rw [e]
        exact hkeep _ _ (I.tm t)
      | true =>
        rw [htm' t ht, hvv]
        have hd : o.dst = some t := by simpa [touchT, ho] using ht
        have hlen : (sn j).tm.n = (sn 0).tm.n := by
          have : ∀ i, i ≤ ops.size → (sn i).tm.n = (sn 0).tm.n := by
            intro i
            induction i with
            | zero => intro _; rfl
            | succ i ih =>
              intro hi
              obtain ⟨oi, hoi⟩ := hat i (by omega)
              obtain ⟨_, _, v, hv⟩ := hr.parts i oi hoi
              rw [hv, putV_len, ih (by omega)]
          exact this j (by omega)
        rw [hd]
        simp only [putV, Act.put]
        rcases (sn j).tm.get_eq t vv with ⟨e, htl⟩ | e
        · have : t < a.tmps.size := by rw [I.size]; omega
          rw [e]
          simp [this]
          exact hR
        · rw [e]
          simp [V.R]
    · cases hod : o.dst <;> simp [Act.put, I.size]
    · cases hod : o.dst <;> simp [Act.put, I.defers]
    · rcases hsplit b blk h with ⟨hb, _, h'⟩ | ⟨hb, _, h'⟩
      · exact hG.holds b hb blk h'
      · refine (I.holds b blk h').keep hG.evo hG.isub hG.le (fun g hg hx => ?_) (fun g hg hi => ?_)
        · obtain ⟨c, hcw, hcg⟩ := hx
          obtain ⟨blk', hc'⟩ := halive c hcw
          exact I.inj b c _ _ g (by rintro rfl; exact hb (htidy.wracc _ hcw)) h' hc' hg hcg
        · rcases hG.igrow g hi with h | ⟨h, _⟩ | ⟨c, hcw, hcg, _, _⟩
          · exact (I.holds b blk h').nimm hg h
          · have := (I.holds b blk h').lt hg; omega
          · obtain ⟨blk', hc'⟩ := halive c hcw
            exact I.inj b c _ _ g (by rintro rfl; exact hb (htidy.wracc _ hcw)) h' hc' hg hcg
    · have other : ∀ b c b1 b2, b ≠ c → b ∉ ac j → touchB sn wr b j = false → hc ops sn wr L b = some (some b1) → (c ∈ ac j ∨ (sn j).hp.length ≤ c) → c < (sn (j + 1)).hp.length → (sn (j + 1)).hp[c]? = some (some b2) → μ' b = some g → μ' c = some g → False := by
        intro b c b1 b2 hne hb htb hb1 hcc hcl hc2 g1 g2
        have g1' := hmu b g htb g1
        have hbs := (I.holds b b1 hb1).lt g1'
        rcases Nat.lt_or_ge c (sn j).hp.length with hcj | hcj
        · have hca : c ∈ ac j := by rcases hcc with h | h; exact h; omega
          have g2' : μ c = some g := by
            rcases hG.dom c g g2 with h | ⟨h, _⟩
            · exact h
            · omega
          have hal : ∃ blk, hc ops sn wr L c = some (some blk) := by
            rw [hblk c hca]
            by_cases hw : c ∈ wr j
            · exact htidy.walive c hw
            · rw [htidy.frame c hcj hw] at hc2; exact ⟨_, hc2⟩
          obtain ⟨b3, hb3⟩ := hal
          exact I.inj b c _ _ g hne hb1 hb3 g1' g2'
        · rcases hG.prov c hcj b2 hc2 g g2 with h | ⟨d, hdw, hdg, _, _⟩
          · omega
          · obtain ⟨b3, hb3⟩ := halive d hdw
            exact I.inj b d _ _ g (by rintro rfl; exact hb (htidy.wracc _ hdw)) hb1 hb3 g1' hdg
      rcases hsplit b b1 hb1 with ⟨hb, hbl, hb'⟩ | ⟨hb, htb, hb'⟩
      · rcases hsplit c b2 hb2 with ⟨hc1, hcl, hc2⟩ | ⟨hc1, htc, hc2⟩
        · exact hG.inj b c b1 b2 g hne hb hc1 hb' hc2 g1 g2
        · exact other c b b2 b1 (Ne.symm hne) hc1 htc hc2 hb hbl hb' g2 g1
      · rcases hsplit c b2 hb2 with ⟨hc1, hcl, hc2⟩ | ⟨hc1, htc, hc2⟩
        · exact other b c b1 b2 hne hb htb hb' hc1 hcl hc2 g1 g2
        · exact I.inj b c b1 b2 g hne hb' hc2 (hmu b g htb g1) (hmu c g htc g2)
    · rcases hG.dom b g hg with h | ⟨h3, h4⟩
      · rcases I.dom b g h with h | ⟨i, hL, hi⟩
        · exact .inl h
        · exact .inr ⟨i, by simp [addL, hL], hi⟩
      · exact .inr ⟨j, by simp [addL], hjs, h3, h4⟩
    · refine I.evo.trans hG.evo I.isub fun k hk hx => ?_
      obtain ⟨c, hcw, hcg⟩ := hx
      obtain ⟨blk, hal⟩ := halive c hcw
      rcases Nat.lt_or_ge c (sn 0).hp.length with hc0 | hc0
      · refine ⟨c, hW j hjs c hcw, ?_⟩
        rcases I.dom c k hcg with h | ⟨i, _, hi, h3, _⟩
        · exact h
        · have := hmono 0 i (by omega) (by omega); omega
      · rcases I.prov c hc0 blk hal k hcg with h | ⟨d, hdW, hdg, _⟩
        · omega
        · exact ⟨d, hdW, hdg⟩
    · -- where it came from
      rcases hsplit b blk h with ⟨hb1, hbl, h'⟩ | ⟨hb1, htb, h'⟩
      · rcases Nat.lt_or_ge b (sn j).hp.length with hbj | hbj
        · -- an old block that it came to
          have hba : b ∈ ac j := by rcases hb1 with h | h; exact h; omega
          have hal : ∃ blk, hc ops sn wr L b = some (some blk) := by
            rw [hblk b hba]
            by_cases hw : b ∈ wr j
            · exact htidy.walive b hw
            · rw [htidy.frame b hbj hw] at h'; exact ⟨_, h'⟩
          obtain ⟨b3, hb3⟩ := hal
          have hg' : μ b = some g := by
            rcases hG.dom b g hg with h | ⟨h, _⟩
            · exact h
            · omega
          rcases I.prov b hb b3 hb3 g hg' with h | ⟨c, hcW, hcg, hca, hcn⟩
          · exact .inl h
          · exact .inr ⟨c, hcW, hcg, hca, dead c hcn⟩
        · rcases hG.prov b hbj blk h' g hg with h | ⟨c, hcw, hcg, hca, hcn⟩
          · exact .inl (Nat.le_trans I.evo.size h)
          · exact fromW c g hcw hcg hcn
      · rcases I.prov b hb blk h' g (hmu b g htb hg) with h | ⟨c, hcW, hcg, hca, hcn⟩
        · exact .inl h
        · exact .inr ⟨c, hcW, hcg, hca, dead c hcn⟩
    · rcases hG.igrow k hk with h | ⟨h, _⟩ | ⟨c, hcw, hcg, _, hcn⟩
      · rcases I.igrow k h with h | h | ⟨c, hcW, hcg, hca, hcn⟩
        · exact .inl h
        · exact .inr (.inl h)
        · exact .inr (.inr ⟨c, hcW, hcg, hca, dead c hcn⟩)
      · exact .inr (.inl (Nat.le_trans I.evo.size h))
      · exact .inr (fromW c k hcw hcg hcn)
    · rcases hG.igrow k hk with h | ⟨_, h⟩ | ⟨c, hcw, hcg, _, _⟩
      · exact Nat.lt_of_lt_of_le (I.ilt k h) hG.evo.size
      · exact h
      · obtain ⟨b3, hb3⟩ := halive c hcw
        exact Nat.lt_of_lt_of_le ((I.holds c b3 hb3).lt hcg) hG.evo.size
  unfold wpOp
  rw [ho]
  simp only
  unfold evStep at hstep
  simp only [putK_eq, forceV_eq, forceW_eq] at hstep
  have hwanted : ∀ bb, wantedV ops (sn j).tm o = some bb → Region.wanted o (yielded ops a.tmps) = bb := by
    intro bb hbb
    unfold wantedV at hbb
    unfold Region.wanted
    split at hbb
    · rename_i hg; cases hbb; rw [hg]
    · rename_i k want hg
      rw [hg]
      simp only
      split at hbb
      case h_2 => cases hbb
      case h_1 d hd =>
      split at hbb
      case h_3 => cases hbb
      case h_2 vs hbv =>
        cases hbb
        have hlk := hlook d (by unfold Oper.looksAt; rw [hg]; exact List.mem_append.2 (.inr (by simp [hd])))
        have hR := I.tm d
        rw [hlk, hbv] at hR
        simp only [V.R] at hR
        have hy : yielded ops a.tmps k = none := by
          unfold yielded
          rw [hd]
          simp only [Option.bind_some]
          by_cases hdl : d < a.tmps.size
          · simp [Array.getD_eq_getD_getElem?, hdl] at hR
            simp [hdl, hR]
          · simp [hdl]
        rw [hy]
        rfl
      case h_1 bv hbv =>
      cases hbb
      have hlk := hlook d (by unfold Oper.looksAt; rw [hg]; exact List.mem_append.2 (.inr (by simp [hd])))
      have hR := I.tm d
      rw [hlk, hbv] at hR
      simp only [V.R] at hR
      have hy : yielded ops a.tmps k = some bv := by
        unfold yielded
        rw [hd]
        simp only [Option.bind_some]
        by_cases hdl : d < a.tmps.size
        · simp [Array.getD_eq_getD_getElem?, hdl] at hR
          simp [hdl, hR]
        · simp [Array.getD_eq_getD_getElem?, hdl, undef] at hR
      rw [hy]
      cases bv <;> cases want <;> rfl
  split at hstep
  · rename_i hwt
    rw [hwanted true hwt]
    simp only [if_true]
    split at hstep
    case h_2 => cases hstep
    case h_1 out hout =>
    simp only [Option.some.injEq, Prod.mk.injEq] at hstep
    obtain ⟨e1, e2, e3⟩ := hstep
    have ehp : (sn (j + 1)).hp = out.hp := by rw [← e1]
    have etm : (sn (j + 1)).tm = putV (sn j).tm o.dst out.v := by rw [← e1]
    left
    refine op_wp hn hbd hcall hout hopr ⟨I.ilt, fun b hb blk h => ?_, fun b hb c hc' b1 b2 g hne hb1 hb2 g1 g2 => ?_, fun b hb hb' => hfresh b hb (by rw [ehp]; exact hb')⟩ fun val w' μ' Im' hR hG => hK _ _ μ' Im' (fin out.v val w' μ' Im' etm hR (by rw [ehp, ← e2, ← e3]; exact hG))
    · rw [e2] at hb
      exact I.holds b blk (by rw [hblk b hb]; exact h)
    · rw [e2] at hb hc'
      exact I.inj b c b1 b2 g hne (by rw [hblk b hb]; exact hb1) (by rw [hblk c hc']; exact hb2) g1 g2
  · rename_i hwf
    rw [hwanted false hwf]
    simp only [Bool.false_eq_true, if_false]
    simp only [Option.some.injEq, Prod.mk.injEq] at hstep
    obtain ⟨e1, e2, e3⟩ := hstep
    have ehp : (sn (j + 1)).hp = (sn j).hp := by rw [← e1]
    have etm : (sn (j + 1)).tm = putV (sn j).tm o.dst (.lit undef) := by rw [← e1]
    refine hK _ _ μ Im (fin (.lit undef) undef w μ Im etm (by simp [V.R]) ?_)
    rw [ehp, ← e2, ← e3]
    exact Good.same _ ⟨I.ilt, by simp, by simp, fun b hb hb' => by omega⟩
  · cases hstep

end
end Go.Proofs.YtlimecojoiimaaaGreat

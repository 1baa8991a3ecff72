/-
  The small evaluator: regions.
-/
import Derived.Test.YtlimecojoiimaaaGreatUl
namespace Go.Proofs.YtlimecojoiimaaaGreat
open Go.RowKit

/-- How a function was entered. -/
structure Entry (P : Program) (hp0 : Hp) (I0 : Nat → Prop) (μ0 : Mu) (w0 : World) : Prop where
  holds : ∀ b blk, hp0[b]? = some (some blk) → Holds P I0 μ0 w0 b blk
  inj : ∀ b c blk blk' g, b ≠ c → hp0[b]? = some (some blk) → hp0[c]? = some (some blk') → μ0 b = some g → μ0 c = some g → False
  dom : ∀ b g, μ0 b = some g → b < hp0.length

/-- What holds between statements of a function: 'hp0', 'μ0', 'w0': as it was entered. -/
structure CI (P : Program) (hp0 : Hp) (I0 : Nat → Prop) (μ0 : Mu) (w0 : World) (s : St) (a : Act) (w : World) (Im : Nat → Prop) (μ : Mu) : Prop where
  tm : ∀ t, V.R P Im μ w (s.tm.get t) (a.tmps.getD t undef)
  size : a.tmps.size = s.tm.n
  defers : a.defers = []
  holds : ∀ b blk, s.hp[b]? = some (some blk) → Holds P Im μ w b blk
  inj : ∀ b c blk blk' g, b ≠ c → s.hp[b]? = some (some blk) → s.hp[c]? = some (some blk') → μ b = some g → μ c = some g → False
  dom : ∀ b g, μ b = some g → b < s.hp.length
  dom0 : ∀ b g, μ b = some g → b < hp0.length → μ0 b = some g
  evo : Evo I0 w0 w (fun k => ∃ b ∈ s.wr, μ0 b = some k)
  le : MuLe μ0 μ
  prov : ∀ b, hp0.length ≤ b → ∀ blk, s.hp[b]? = some (some blk) → ∀ g, μ b = some g → w0.heap.size ≤ g ∨ ∃ c ∈ s.wr, c < hp0.length ∧ μ0 c = some g ∧ Alive hp0 c ∧ s.hp[c]? = some none
  len : hp0.length ≤ s.hp.length
  frame : ∀ b, b < hp0.length → b ∉ s.wr → s.hp[b]? = hp0[b]?
  alive : ∀ b, b < hp0.length → Alive s.hp b → Alive hp0 b
  wal : ∀ b ∈ s.wr, b < hp0.length → Alive hp0 b
  isub : Sub I0 Im
  igrow : ∀ k, Im k → I0 k ∨ w0.heap.size ≤ k ∨ ∃ c ∈ s.wr, c < hp0.length ∧ μ0 c = some k ∧ Alive hp0 c ∧ s.hp[c]? = some none
  ilt : ∀ k, Im k → k < w.heap.size
  ent : Entry P hp0 I0 μ0 w0

section
variable {P : Program} {ops : Array Oper} {sn : Nat → St} {ac wr : Nat → List Nat}

theorem run_alive (hr : Run P ops sn ac wr) {c : Nat} (hc0 : c < (sn 0).hp.length) : ∀ i, i ≤ ops.size → Alive (sn i).hp c → Alive (sn 0).hp c := by
  intro i
  induction i with
  | zero => intro _ h; exact h
  | succ i ih =>
    intro hi ⟨blk, hal⟩
    have ht := (hr.parts i _ (Array.getElem?_eq_getElem (show i < ops.size by omega))).1
    refine ih (by omega) ?_
    by_cases hw : c ∈ wr i
    · exact ht.walive c hw
    · rw [ht.frame c (by have := lens hr (show 0 ≤ i by omega) (by omega); omega) hw] at hal; exact ⟨_, hal⟩
theorem run_dead (hr : Run P ops sn ac wr) {c : Nat} (hc0 : (sn 0).hp[c]? = some none) : ∀ i, i ≤ ops.size → (sn i).hp[c]? = some none := by
  intro i
  induction i with
  | zero => intro _; exact hc0
  | succ i ih =>
    intro hi
    have ht := (hr.parts i _ (Array.getElem?_eq_getElem (show i < ops.size by omega))).1
    have h := ih (by omega)
    rw [ht.frame c (List.getElem?_eq_some_iff.1 h).1 ?_]
    · exact h
    · intro hw
      obtain ⟨blk, hal⟩ := ht.walive c hw
      rw [h] at hal; cases hal
theorem run_frame (hr : Run P ops sn ac wr) {c : Nat} (hc0 : c < (sn 0).hp.length) (hn : ∀ i, i < ops.size → c ∉ wr i) : ∀ i, i ≤ ops.size → (sn i).hp[c]? = (sn 0).hp[c]? := by
  intro i
  induction i with
  | zero => intro _; rfl
  | succ i ih =>
    intro hi
    have ht := (hr.parts i _ (Array.getElem?_eq_getElem (show i < ops.size by omega))).1
    rw [ht.frame c (by have := lens hr (show 0 ≤ i by omega) (by omega); omega) (hn i (by omega)), ih (by omega)]
theorem run_tm (hr : Run P ops sn ac wr) : ∀ i, i ≤ ops.size → (sn i).tm.n = (sn 0).tm.n := by
  intro i
  induction i with
  | zero => intro _; rfl
  | succ i ih =>
    intro hi
    obtain ⟨_, _, v, hv⟩ := hr.parts i _ (Array.getElem?_eq_getElem (show i < ops.size by omega))
    rw [hv, putV_len, ih (by omega)]

theorem hc_all (hr : Run P ops sn ac wr) {L : Nat → Bool} (hL : ∀ i, i < ops.size → L i = true) (b : Nat) : hc ops sn wr L b = (sn ops.size).hp[b]? :=
  lw_full (fun i hi _ => hL i hi) fun i hi h => touch_back hr (Array.getElem?_eq_getElem hi) h
theorem tmc_all (hr : Run P ops sn ac wr) {L : Nat → Bool} (hL : ∀ i, i < ops.size → L i = true) (t : Nat) : tmc ops sn L t = (sn ops.size).tm.get t :=
  lw_full (fun i hi _ => hL i hi) fun i hi h => by
    obtain ⟨_, _, v, hv⟩ := hr.parts i _ (Array.getElem?_eq_getElem hi)
    have hd : ops[i].dst ≠ some t := by simpa [touchT, hi] using h
    show (sn (i + 1)).tm.get t = _
    rw [hv, putV_ne hd]
theorem lw_none {α : Type} {touch : Nat → Bool} {can : Nat → α} {L : Nat → Bool} (hL : ∀ i, L i = false) : ∀ n, lw touch can L n = can 0
  | 0 => rfl
  | n + 1 => by unfold lw; simp [hL n, lw_none hL n]

theorem ri_start {hp0 : Hp} {I0 Im : Nat → Prop} {μ0 μ : Mu} {w0 w : World} {a : Act} {W : List Nat} {L : Nat → Bool} (hL : ∀ i, L i = false) (C : CI P hp0 I0 μ0 w0 (sn 0) a w Im μ) (w1 : World) (hw : w1 = w ∨ w1 = w.drew) : RI P ops sn wr W Im μ w L a w1 Im μ := by
  have hh : ∀ b, hc ops sn wr L b = (sn 0).hp[b]? := fun b => lw_none hL _
  have ht : ∀ t, tmc ops sn L t = (sn 0).tm.get t := fun t => lw_none hL _
  have hE : Evo Im w w1 (fun k => ∃ b ∈ W, μ b = some k) := by
    rcases hw with rfl | rfl
    · exact .refl _ _
    · exact .drew _ _
  exact ⟨fun t => by rw [ht]; exact (C.tm t).keep hE (.refl _) (.refl _), C.size, C.defers, fun b blk h => by
      rw [hh] at h
      rcases hw with rfl | rfl
      · exact C.holds b blk h
      · exact (C.holds b blk h).keep (.drew w (fun _ => False)) (.refl _) (.refl _) (fun _ _ h => h) (fun g hg => (C.holds b blk h).nimm hg), fun b c b1 b2 g hne h1 h2 => C.inj b c b1 b2 g hne (by rw [← hh]; exact h1) (by rw [← hh]; exact h2),
    fun b g h => .inl h, hE, .refl _, fun b hb blk h => (by rw [hh, List.getElem?_eq_none hb] at h; cases h), .refl _, fun k h => .inl h, fun k h => Nat.lt_of_lt_of_le (C.ilt k h) hE.size⟩

theorem ci_region (hr : Run P ops sn ac wr) {hp0 : Hp} {I0 Im Im' : Nat → Prop} {μ0 μ μ' : Mu} {w0 w w' : World} {a a' : Act} {W : List Nat} {L : Nat → Bool} (hL : ∀ i, i < ops.size → L i = true)
    (hW : ∀ b, b ∈ W ↔ ∃ i, i < ops.size ∧ b ∈ wr i) (hWn : ∀ b, b ∈ (sn ops.size).wr ↔ b ∈ (sn 0).wr ∨ b ∈ W)
    (C : CI P hp0 I0 μ0 w0 (sn 0) a w Im μ) (I : RI P ops sn wr W Im μ w L a' w' Im' μ') : CI P hp0 I0 μ0 w0 (sn ops.size) a' w' Im' μ' := by
  have hh := hc_all hr hL
  have ht := tmc_all hr hL
  have hl := lens hr (Nat.zero_le ops.size) (Nat.le_refl _)
  have hall := fun c hc0 => run_alive hr (c := c) hc0 ops.size (Nat.le_refl _)
  have hWal : ∀ b g, b ∈ W → μ b = some g → Alive (sn 0).hp b := by
    intro b g hb hg
    obtain ⟨i, hi, hbi⟩ := (hW b).1 hb
    have hti := (hr.parts i _ (Array.getElem?_eq_getElem hi)).1
    exact run_alive hr (C.dom b g hg) i (by omega) (hti.walive b hbi)
  have hfr : ∀ b, b < (sn 0).hp.length → b ∉ W → (sn ops.size).hp[b]? = (sn 0).hp[b]? := fun b hb hn => run_frame hr hb (fun i hi h => hn ((hW b).2 ⟨i, hi, h⟩)) ops.size (Nat.le_refl _)
  have holdmu : ∀ b g, b < (sn 0).hp.length → μ' b = some g → μ b = some g := by
    intro b g hb hg
    rcases I.dom b g hg with h | ⟨i, _, hi, h3, _⟩
    · exact h
    · have := lens hr (Nat.zero_le i) (by omega); omega
  refine ⟨fun t => by rw [← ht]; exact I.tm t, by rw [I.size, run_tm hr _ (Nat.le_refl _)], I.defers, fun b blk h => I.holds b blk (by rw [hh]; exact h), fun b c b1 b2 g hne h1 h2 => I.inj b c b1 b2 g hne (by rw [hh]; exact h1) (by rw [hh]; exact h2),
    fun b g h => ?_, fun b g h hb => C.dom0 b g (holdmu b g (by have := C.len; omega) h) hb, ?_, C.le.trans I.le, fun b hb blk h g hg => ?_, Nat.le_trans C.len hl, fun b hb hn => ?_, fun b hb h => C.alive b hb (hall b (by have := C.len; omega) h), fun b hb hb0 => ?_, fun k h => I.isub k (C.isub k h), fun k hk => ?_, I.ilt, C.ent⟩
  · rcases I.dom b g h with h | ⟨i, _, hi, _, h4⟩
    · have := C.dom b g h; omega
    · have := lens hr (show i + 1 ≤ ops.size by omega) (Nat.le_refl _); omega
  · refine (C.evo.mono (fun k hk => by obtain ⟨b, hb, hg⟩ := hk; exact ⟨b, (hWn b).2 (.inl hb), hg⟩)).trans I.evo C.isub fun k hk hx => ?_
    obtain ⟨b, hb, hg⟩ := hx
    rcases Nat.lt_or_ge b hp0.length with hb0 | hb0
    · exact ⟨b, (hWn b).2 (.inr hb), C.dom0 b k hg hb0⟩
    · obtain ⟨blk, hal⟩ := hWal b k hb hg
      rcases C.prov b hb0 blk hal k hg with h | ⟨c, hc, _, hcg, _⟩
      · omega
      · exact ⟨c, (hWn c).2 (.inl hc), hcg⟩
  · have old : ∀ c blk, hp0.length ≤ c → (sn 0).hp[c]? = some (some blk) → μ c = some g → w0.heap.size ≤ g ∨ ∃ c ∈ (sn ops.size).wr, c < hp0.length ∧ μ0 c = some g ∧ Alive hp0 c ∧ (sn ops.size).hp[c]? = some none := by
      intro c blk hc hal hcg
      rcases C.prov c hc blk hal g hcg with h | ⟨d, hd, hd0, hdg, hda, hdn⟩
      · exact .inl h
      · exact .inr ⟨d, (hWn d).2 (.inl hd), hd0, hdg, hda, run_dead hr hdn _ (Nat.le_refl _)⟩
    rcases Nat.lt_or_ge b (sn 0).hp.length with hb0 | hb0
    · obtain ⟨blk', hal⟩ := hall b hb0 ⟨_, h⟩
      exact old b blk' hb hal (holdmu b g hb0 hg)
    · rcases I.prov b hb0 blk (by rw [hh]; exact h) g hg with h | ⟨c, hcW, hcg, hca, hcn⟩
      · exact .inl (Nat.le_trans C.evo.size h)
      · rcases Nat.lt_or_ge c hp0.length with hc0 | hc0
        · exact .inr ⟨c, (hWn c).2 (.inr hcW), hc0, C.dom0 c g hcg hc0, C.alive c hc0 hca, by rw [← hh]; exact hcn⟩
        · obtain ⟨blk', hal⟩ := hca
          exact old c blk' hc0 hal hcg
  · rw [hfr b (by have := C.len; omega) (fun h => hn ((hWn b).2 (.inr h)))]
    exact C.frame b hb (fun h => hn ((hWn b).2 (.inl h)))
  · rcases (hWn b).1 hb with h | h
    · exact C.wal b h hb0
    · obtain ⟨i, hi, hbi⟩ := (hW b).1 h
      have hti := (hr.parts i _ (Array.getElem?_eq_getElem hi)).1
      exact C.alive b hb0 (run_alive hr (by have := C.len; omega) i (by omega) (hti.walive b hbi))
  · rcases I.igrow k hk with h | h | ⟨c, hcW, hcg, hca, hcn⟩
    · rcases C.igrow k h with h | h | ⟨d, hd, hd0, hdg, hda, hdn⟩
      · exact .inl h
      · exact .inr (.inl h)
      · exact .inr (.inr ⟨d, (hWn d).2 (.inl hd), hd0, hdg, hda, run_dead hr hdn _ (Nat.le_refl _)⟩)
    · exact .inr (.inl (Nat.le_trans C.evo.size h))
    · rcases Nat.lt_or_ge c hp0.length with hc0 | hc0
      · exact .inr (.inr ⟨c, (hWn c).2 (.inr hcW), hc0, C.dom0 c k hcg hc0, C.alive c hc0 hca, by rw [← hh]; exact hcn⟩)
      · obtain ⟨blk', hal⟩ := hca
        rcases C.prov c hc0 blk' hal k hcg with h | ⟨d, hd, hd0, hdg, hda, hdn⟩
        · exact .inr (.inl h)
        · exact .inr (.inr ⟨d, (hWn d).2 (.inl hd), hd0, hdg, hda, run_dead hr hdn _ (Nat.le_refl _)⟩)

/-- A region in its own order. -/
theorem region_seq (hn : Named P) (hr : Run P ops sn ac wr) {W : List Nat} {I0 : Nat → Prop} {μ : Mu} {w : World} (hW : ∀ i, i < ops.size → ∀ b ∈ wr i, b ∈ W) (hdom : ∀ b g, μ b = some g → b < (sn 0).hp.length)
    {Q : Exit → Act → World → Prop} (hQ : ∀ L a' w' μ' Im', (∀ i, i < ops.size → L i = true) → RI P ops sn wr W I0 μ w L a' w' Im' μ' → Q .normal a' w') :
    ∀ (m k : Nat), k + m = ops.size → ∀ a w1 μ1 Im1, RI P ops sn wr W I0 μ w (fun i => decide (i < k)) a w1 Im1 μ1 → wpOps P ops Q (List.range' k m) a w1
  | 0, k, hk, a, w1, μ1, Im1, I => by
    simp only [List.range'_zero, wpOps]
    exact hQ _ _ _ _ _ (fun i hi => by simp; omega) I
  | m + 1, k, hk, a, w1, μ1, Im1, I => by
    rw [List.range'_succ, wpOps_cons]
    refine ri_step hn hr hW hdom (Array.getElem?_eq_getElem (show k < ops.size by omega)) (by simp) (fun i oi hi _ hL => by simp at hL; omega) (fun i oi hi _ hL => by simp at hL; omega) I fun a' w' μ' Im' I' => ?_
    have e : addL (fun i => decide (i < k)) k = fun i => decide (i < k + 1) := by
      funext i
      rw [Bool.eq_iff_iff]
      simp [addL]
      omega
    rw [e] at I'
    exact region_seq hn hr hW hdom hQ m (k + 1) (by omega) a' w' μ' Im' I'

/-- May the two change places? -/
structure Free (ops : Array Oper) (sn : Nat → St) (ac wr : Nat → List Nat) (i j : Nat) : Prop where
  apart : ∀ oi oj, ops[i]? = some oi → ops[j]? = some oj → oi.apart ops oj = true
  read : ∀ b ∈ ac j, touchB sn wr b i = false
  write : ∀ b ∈ wr j, b ∉ ac i

/-- i comes ahead of j, by what the text says. -/
inductive Ahead (ops : Array Oper) (i : Nat) : Nat → Prop where
  | one {j : Nat} {o : Oper} {e : Edge} (ho : ops[j]? = some o) (he : e ∈ o.after) (hb : Region.binds .any e = true) (h : e.on = i) : Ahead ops i j
  | more {j : Nat} {o : Oper} {e : Edge} (ho : ops[j]? = some o) (he : e ∈ o.after) (hb : Region.binds .any e = true) (h : Ahead ops i e.on) : Ahead ops i j

def Closed (ops : Array Oper) (L : Nat → Bool) : Prop := ∀ j o e, L j = true → ops[j]? = some o → e ∈ o.after → Region.binds .any e = true → L e.on = true
theorem Ahead.closed {L : Nat → Bool} (hL : Closed ops L) {i j : Nat} (h : Ahead ops i j) (hj : L j = true) : L i = true := by
  induction h with
  | one ho he hb h => rw [← h]; exact hL _ _ _ hj ho he hb
  | more ho he hb _ ih => exact ih (hL _ _ _ hj ho he hb)

def listedL (listed : Array Bool) : Nat → Bool := fun i => listed.getD i false

/-- A region in any order. -/
theorem region_any (hn : Named P) (hr : Run P ops sn ac wr) {W : List Nat} {I0 : Nat → Prop} {μ : Mu} {w : World} (hW : ∀ i, i < ops.size → ∀ b ∈ wr i, b ∈ W) (hdom : ∀ b g, μ b = some g → b < (sn 0).hp.length)
    (hback : ∀ j o e, ops[j]? = some o → e ∈ o.after → Region.binds .any e = true → e.on < j)
    (hfree : ∀ i j, i < j → j < ops.size → Ahead ops i j ∨ Free ops sn ac wr i j)
    {Q : Exit → Act → World → Prop} (hQ : ∀ L a' w' μ' Im', (∀ i, i < ops.size → L i = true) → RI P ops sn wr W I0 μ w L a' w' Im' μ' → Q .normal a' w') :
    ∀ (fuel : Nat) (listed : Array Bool), listed.size = ops.size → listed.toList.countP (· == false) ≤ fuel → Closed ops (listedL listed) → ∀ a w1 μ1 Im1, RI P ops sn wr W I0 μ w (listedL listed) a w1 Im1 μ1 → wpAny P .any ops Q fuel listed a w1 := by
  -- nothing may come up: all has
  have done : ∀ listed : Array Bool, listed.size = ops.size → Region.ready .any ops listed = [] → ∀ i, i < ops.size → listedL listed i = true := by
    intro listed hs hrd i
    induction i using Nat.strongRecOn with
    | _ i ih =>
      intro hi
      cases hl : listedL listed i with
      | true => rfl
      | false =>
        exfalso
        have hm : i ∈ Region.ready .any ops listed := by
          unfold Region.ready
          rw [List.mem_filter]
          refine ⟨by simpa using hi, ?_⟩
          have hli : listed.getD i true = false := by
            simp only [listedL, Array.getD_eq_getD_getElem?] at hl ⊢
            rw [Array.getElem?_eq_getElem (by omega)] at hl ⊢
            simpa using hl
          rw [hli, Array.getElem?_eq_getElem hi]
          simp only [Bool.not_false, Bool.true_and, Option.map_some, Option.getD_some]
          rw [Array.all_eq_true_iff_forall_mem]
          intro e he
          cases hb : Region.binds .any e with
          | false => rfl
          | true =>
            have hlt := hback i _ e (Array.getElem?_eq_getElem hi) he hb
            have := ih e.on hlt (by omega)
            simpa [listedL] using this
        rw [hrd] at hm
        simp at hm
  have step : ∀ (listed : Array Bool), listed.size = ops.size → Closed ops (listedL listed) → ∀ i, i ∈ Region.ready .any ops listed → i < ops.size ∧ listedL listed i = false ∧ (∀ e, e ∈ (ops[i]?).elim #[] (·.after) → Region.binds .any e = true → listedL listed e.on = true) := by
    intro listed hs hcl i hi
    unfold Region.ready at hi
    rw [List.mem_filter] at hi
    obtain ⟨h1, h2⟩ := hi
    have h1 : i < ops.size := by simpa using h1
    rw [Bool.and_eq_true] at h2
    obtain ⟨h2, h3⟩ := h2
    refine ⟨h1, ?_, fun e he hb => ?_⟩
    · simp only [listedL, Array.getD_eq_getD_getElem?] at h2 ⊢
      rw [Array.getElem?_eq_getElem (by omega)] at h2 ⊢
      simpa using h2
    · rw [Array.getElem?_eq_getElem h1] at h3 he
      simp only [Option.map_some, Option.getD_some, Option.elim_some] at h3 he
      have := (Array.all_eq_true_iff_forall_mem.1 h3) e he
      simpa [hb, listedL] using this
  intro fuel
  induction fuel with
  | zero =>
    intro listed hs hf hcl a w1 μ1 Im1 I
    have hall : ∀ i, i < ops.size → listedL listed i = true := by
      intro i hi
      have hz : listed.toList.countP (· == false) = 0 := by omega
      have hm : listed[i]'(by omega) ∈ listed.toList := by simp
      have := List.countP_eq_zero.1 hz _ hm
      simp only [listedL, Array.getD_eq_getD_getElem?]
      rw [Array.getElem?_eq_getElem (by omega)]
      simpa using this
    refine ⟨?_, hQ _ _ _ _ _ hall I⟩
    rw [List.eq_nil_iff_forall_not_mem]
    intro i hi
    obtain ⟨h1, h2, _⟩ := step listed hs hcl i hi
    rw [hall i h1] at h2; cases h2
  | succ fuel ih =>
    intro listed hs hf hcl a w1 μ1 Im1 I
    refine ⟨fun hrd => hQ _ _ _ _ _ (done listed hs hrd) I, fun i hi => ?_⟩
    obtain ⟨h1, h2, h3⟩ := step listed hs hcl i hi
    refine ri_step hn hr hW hdom (Array.getElem?_eq_getElem h1) h2 (fun k ok hk hok hL => ?_) (fun k ok hk hok hL => ?_) I fun a' w' μ' Im' I' => ?_
    · rcases hfree k i hk h1 with h | h
      · exfalso
        cases h with
        | one ho he hb h =>
          have := h3 _ (by rw [ho]; exact he) hb
          rw [h, hL] at this; cases this
        | more ho he hb h =>
          have := h.closed hcl (h3 _ (by rw [ho]; exact he) hb)
          rw [hL] at this; cases this
      · exact ⟨h.apart _ _ hok (Array.getElem?_eq_getElem h1), h.read, h.write⟩
    · have hks : k < ops.size := (Array.getElem?_eq_some_iff.1 hok).1
      rcases hfree i k hk hks with h | h
      · have := h.closed hcl hL
        rw [h2] at this; cases this
      · exact ⟨h.apart _ _ (Array.getElem?_eq_getElem h1) hok, h.read, h.write⟩
    · have e : listedL (listed.setIfInBounds i true) = addL (listedL listed) i := by
        funext k
        simp only [listedL, addL, Array.getD_eq_getD_getElem?, Array.getElem?_setIfInBounds]
        by_cases hik : i = k
        · subst hik; simp [hs, h1]
        · have : ¬ k = i := fun e => hik e.symm
          simp [hik, this]
      refine ih _ (by simp [hs]) ?_ ?_ a' w' μ' Im' (by rw [e]; exact I')
      · rw [Array.toList_setIfInBounds, List.countP_set (h := by simpa [hs] using h1)]
        have h2' : listed.toList[i]'(by simpa [hs] using h1) = false := by
          simp only [listedL, Array.getD_eq_getD_getElem?] at h2
          rw [Array.getElem?_eq_getElem (by omega)] at h2
          simpa using h2
        rw [h2']
        simp only [show (false == false) = true from rfl, show (true == false) = false from rfl, if_true, Bool.false_eq_true, if_false]
        omega
      · rw [e]
        intro k o ed hk ho he hb
        simp only [addL, Bool.or_eq_true, beq_iff_eq] at hk ⊢
        rcases hk with rfl | hk
        · exact .inr (h3 ed (by rw [ho]; exact he) hb)
        · exact .inr (hcl k o ed hk ho he hb)

end
end Go.Proofs.YtlimecojoiimaaaGreat

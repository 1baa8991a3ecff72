/-
  The small evaluator: regions.
  The small evaluator: code and functions.
  The small evaluator: results of functions; what is no more named reads as values.
  The small evaluator: what is known of blocks, said in another way.
  The small evaluator: states said in another way.
  The small evaluator: what a piece of code comes to; loops; functions.
-/
import Derived.Test.YtfncaghjfgnnhaaGreatDoorPyAb
import Derived.KernelRfl
namespace Go.Proofs.YtfncaghjfgnnhaaGreatDoor
open Go.RowKit
set_option maxRecDepth 100000
structure Entry (P : Program) (hp0 : Hp) (I0 : Nat → Prop) (μ0 : Mu) (w0 : World) : Prop where
 holds : ∀ b blk, hp0[b]? = some (some blk) → Holds P I0 μ0 w0 b blk
 inj : ∀ b c blk blk' g, b ≠ c → hp0[b]? = some (some blk) → hp0[c]? = some (some blk') → μ0.own b g → μ0.own c g → False
 dom : ∀ b g, μ0 b = some g → b < hp0.length
structure CI (P : Program) (hp0 : Hp) (I0 : Nat → Prop) (μ0 : Mu) (w0 : World) (s : St) (a : Act) (w : World) (Im : Nat → Prop) (μ : Mu) : Prop where
 tm : ∀ t, V.R P Im μ w (s.tm.get t) (a.tmps.getD t undef)
 size : a.tmps.size = s.tm.n
 defers : a.defers = []
 holds : ∀ b blk, s.hp[b]? = some (some blk) → Holds P Im μ w b blk
 inj : ∀ b c blk blk' g, b ≠ c → s.hp[b]? = some (some blk) → s.hp[c]? = some (some blk') → μ.own b g → μ.own c g → False
 dom : ∀ b g, μ b = some g → b < s.hp.length
 dom0 : ∀ b g, μ b = some g → b < hp0.length → μ0 b = some g
 ftd : ∀ b, b < hp0.length → b ∉ s.wr → μ.ft b = μ0.ft b
 evo : Evo I0 w0 w (fun k => ∃ b ∈ s.wr, b < hp0.length ∧ μ0.own b k)
 le : MuLe μ0 μ
 prov : ∀ b, (hp0.length ≤ b ∨ b ∈ s.wr) → ∀ blk, s.hp[b]? = some (some blk) → ∀ g, μ.own b g → w0.heap.size ≤ g ∨ ∃ c ∈ s.wr, c < hp0.length ∧ μ0.own c g ∧ Alive hp0 c
 len : hp0.length ≤ s.hp.length
 frame : ∀ b, b < hp0.length → b ∉ s.wr → s.hp[b]? = hp0[b]?
 alive : ∀ b, b < hp0.length → Alive s.hp b → Alive hp0 b
 wal : ∀ b ∈ s.wr, b < hp0.length → Alive hp0 b
 isub : Sub I0 Im
 igrow : ∀ k, Im k → I0 k ∨ w0.heap.size ≤ k ∨ ∃ c ∈ s.wr, c < hp0.length ∧ μ0.own c k ∧ Alive hp0 c
 ilt : ILt P Im w
 ent : Entry P hp0 I0 μ0 w0
section
variable {P : Program} {ops : Array Oper} {sn : Nat → St} {ac wr : Nat → List Nat}
theorem run_alive (hr : Run P ops sn ac wr) {c : Nat} (hc0 : c < (sn 0).hp.length) : ∀ i, i ≤ ops.size → Alive (sn i).hp c → Alive (sn 0).hp c := by
 intro i
 induction i with
 | zero => intro _ h; exact h
 | succ i ih =>
  intro hi ⟨blk, hal⟩
  have ht := (hr.parts i _ (Array.getElem?_eq_getElem (show i < ops.size by omega))).1
  refine ih (by omega) ?_
  by_cases hw : c ∈ wr i
  ·exact ht.walive c hw
  ·rw [ht.frame c (by have := lens hr (show 0 ≤ i by omega) (by omega); omega) hw] at hal; exact ⟨_, hal⟩
theorem run_frame (hr : Run P ops sn ac wr) {c : Nat} (hc0 : c < (sn 0).hp.length) (hn : ∀ i, i < ops.size → c ∉ wr i) : ∀ i, i ≤ ops.size → (sn i).hp[c]? = (sn 0).hp[c]? := by
 intro i
 induction i with
 | zero => intro _; rfl
 | succ i ih =>
  intro hi
  have ht := (hr.parts i _ (Array.getElem?_eq_getElem (show i < ops.size by omega))).1
  rw [ht.frame c (by have := lens hr (show 0 ≤ i by omega) (by omega); omega) (hn i (by omega)), ih (by omega)]
theorem run_tm (hr : Run P ops sn ac wr) : ∀ i, i ≤ ops.size → (sn i).tm.n = (sn 0).tm.n := by
 intro i
 induction i with
 | zero => intro _; rfl
 | succ i ih =>
  intro hi
  obtain ⟨_, _, v, hv⟩ := hr.parts i _ (Array.getElem?_eq_getElem (show i < ops.size by omega))
  rw [hv, putV_len, ih (by omega)]
theorem hc_all (hr : Run P ops sn ac wr) {L : Nat → Bool} (hL : ∀ i, i < ops.size → L i = true) (b : Nat) : hc ops sn wr L b = (sn ops.size).hp[b]? :=
 lw_full (fun i hi _ => hL i hi) fun i hi h => touch_back hr (Array.getElem?_eq_getElem hi) h
theorem tmc_all (hr : Run P ops sn ac wr) {L : Nat → Bool} (hL : ∀ i, i < ops.size → L i = true) (t : Nat) : tmc ops sn L t = (sn ops.size).tm.get t :=
 lw_full (fun i hi _ => hL i hi) fun i hi h => by
  obtain ⟨_, _, v, hv⟩ := hr.parts i _ (Array.getElem?_eq_getElem hi)
  have hd : ops[i].dst ≠ some t := by simpa [touchT, hi] using h
  show (sn (i + 1)).tm.get t = _
  rw [hv, putV_ne hd]
theorem lw_none {α : Type} {touch : Nat → Bool} {can : Nat → α} {L : Nat → Bool} (hL : ∀ i, L i = false) : ∀ n, lw touch can L n = can 0
 | 0 => rfl
 | n + 1 => by unfold lw; simp [hL n, lw_none hL n]
theorem ri_start {hp0 : Hp} {I0 Im : Nat → Prop} {μ0 μ : Mu} {w0 w : World} {a : Act} {W : List Nat} {L : Nat → Bool} (hL : ∀ i, L i = false) (C : CI P hp0 I0 μ0 w0 (sn 0) a w Im μ) (w1 : World) (hw : w1 = w ∨ w1 = w.drew) : RI P ops sn wr W Im μ w L a w1 Im μ := by
 have hh : ∀ b, hc ops sn wr L b = (sn 0).hp[b]? := fun b => lw_none hL _
 have ht : ∀ t, tmc ops sn L t = (sn 0).tm.get t := fun t => lw_none hL _
 have hE : Evo Im w w1 (fun k => ∃ b ∈ W, μ.own b k ∧ Alive (sn 0).hp b) := by
  rcases hw with rfl | rfl
  ·exact .refl _ _
  ·exact .drew _ _
 refine ⟨fun t => by rw [ht]; exact (C.tm t).keep hE (.refl _) (.refl _), C.size, C.defers, fun b blk h => by
   rw [hh] at h
   rcases hw with rfl | rfl
   ·exact C.holds b blk h
   ·exact (C.holds b blk h).keep (.drew w (fun _ => False)) (.refl _) (.refl _) (fun h => h) rfl (fun _ _ h => h) (fun g hg => (C.holds b blk h).nimm hg), fun b c b1 b2 g hne h1 h2 => C.inj b c b1 b2 g hne (by rw [← hh]; exact h1) (by rw [← hh]; exact h2),
  fun b g h => .inl h, fun _ _ _ => rfl, hE, .refl _, fun b hb blk h g hg => ?_, .refl _, fun k h => .inl h, C.ilt.step hE (fun _ h => h) fun k h => Nat.lt_of_lt_of_le (C.ilt k h) hE.size⟩
 rw [hh] at h
 rcases hb with hb | hb
 ·rw [List.getElem?_eq_none hb] at h; cases h
 ·exact .inr ⟨b, hb, hg, ⟨_, h⟩⟩
theorem ci_region (hr : Run P ops sn ac wr) {hp0 : Hp} {I0 Im Im' : Nat → Prop} {μ0 μ μ' : Mu} {w0 w w' : World} {a a' : Act} {W : List Nat} {L : Nat → Bool} (hL : ∀ i, i < ops.size → L i = true)
  (hW : ∀ b, b ∈ W ↔ ∃ i, i < ops.size ∧ b ∈ wr i) (hWn : ∀ b, b ∈ (sn ops.size).wr ↔ b ∈ (sn 0).wr ∨ b ∈ W)
  (C : CI P hp0 I0 μ0 w0 (sn 0) a w Im μ) (I : RI P ops sn wr W Im μ w L a' w' Im' μ') : CI P hp0 I0 μ0 w0 (sn ops.size) a' w' Im' μ' := by
 have hh := hc_all hr hL
 have ht := tmc_all hr hL
 have hl := lens hr (Nat.zero_le ops.size) (Nat.le_refl _)
 have hall := fun c hc0 => run_alive hr (c := c) hc0 ops.size (Nat.le_refl _)
 have hfr : ∀ b, b < (sn 0).hp.length → b ∉ W → (sn ops.size).hp[b]? = (sn 0).hp[b]? := fun b hb hn => run_frame hr hb (fun i hi h => hn ((hW b).2 ⟨i, hi, h⟩)) ops.size (Nat.le_refl _)
 have holdmu : ∀ b g, b < (sn 0).hp.length → μ' b = some g → μ b = some g := by
  intro b g hb hg
  rcases I.dom b g hg with h | ⟨i, _, hi, h3, _⟩
  ·exact h
  ·have := lens hr (Nat.zero_le i) (by omega); omega
 have holdown : ∀ b g, b < (sn 0).hp.length → b ∉ W → μ'.own b g → μ.own b g := by
  intro b g hb hn hg
  rcases hg with hg | hg
  ·exact .inl (holdmu b g hb hg)
  ·rw [I.ftd b hn hb] at hg; exact .inr hg
 have hWlt : ∀ b, b ∈ W → b < (sn 0).hp.length → Alive (sn 0).hp b := by
  intro b hb hlt
  obtain ⟨i, hi, hbi⟩ := (hW b).1 hb
  have hti := (hr.parts i _ (Array.getElem?_eq_getElem hi)).1
  exact run_alive hr hlt i (by omega) (hti.walive b hbi)
 have old : ∀ c g, c ∈ W → μ.own c g → Alive (sn 0).hp c → w0.heap.size ≤ g ∨ ∃ c ∈ (sn ops.size).wr, c < hp0.length ∧ μ0.own c g ∧ Alive hp0 c := by
  intro c g hcW hcg hca
  obtain ⟨blk, hal⟩ := hca
  by_cases hc0 : hp0.length ≤ c ∨ c ∈ (sn 0).wr
  ·rcases C.prov c hc0 blk hal g hcg with h | ⟨d, hd, hd0, hdg, hda⟩
   ·exact .inl h
   ·exact .inr ⟨d, (hWn d).2 (.inl hd), hd0, hdg, hda⟩
  ·have hcl : c < hp0.length := by
    rcases Nat.lt_or_ge c hp0.length with h | h
    ·exact h
    ·exact absurd (.inl h) hc0
   have hcw : c ∉ (sn 0).wr := fun h => hc0 (.inr h)
   refine .inr ⟨c, (hWn c).2 (.inr hcW), hcl, ?_, C.alive c hcl ⟨_, hal⟩⟩
   rcases hcg with hcg | hcg
   ·exact .inl (C.dom0 c g hcg hcl)
   ·rw [C.ftd c hcl hcw] at hcg; exact .inr hcg
 refine ⟨fun t => by rw [← ht]; exact I.tm t, by rw [I.size, run_tm hr _ (Nat.le_refl _)], I.defers, fun b blk h => I.holds b blk (by rw [hh]; exact h), fun b c b1 b2 g hne h1 h2 => I.inj b c b1 b2 g hne (by rw [hh]; exact h1) (by rw [hh]; exact h2),
  fun b g h => ?_, fun b g h hb => C.dom0 b g (holdmu b g (by have := C.len; omega) h) hb, fun b hb hn => ?_, ?_, C.le.trans I.le, fun b hb blk h g hg => ?_, Nat.le_trans C.len hl, fun b hb hn => ?_, fun b hb h => C.alive b hb (hall b (by have := C.len; omega) h), fun b hb hb0 => ?_, fun k h => I.isub k (C.isub k h), fun k hk => ?_, I.ilt, C.ent⟩
 ·rcases I.dom b g h with h | ⟨i, _, hi, _, h4⟩
  ·have := C.dom b g h; omega
  ·have := lens hr (show i + 1 ≤ ops.size by omega) (Nat.le_refl _); omega
 ·rw [I.ftd b (fun h => hn ((hWn b).2 (.inr h))) (by have := C.len; omega), C.ftd b hb (fun h => hn ((hWn b).2 (.inl h)))]
 ·refine (C.evo.mono (fun k hk => by obtain ⟨b, hb, hg⟩ := hk; exact ⟨b, (hWn b).2 (.inl hb), hg⟩)).trans I.evo C.isub fun k hk hx => ?_
  obtain ⟨b, hb, hg, hal⟩ := hx
  rcases old b k hb hg hal with h | ⟨c, hc, hc0, hcg, _⟩
  ·omega
  ·exact ⟨c, hc, hc0, hcg⟩
 ·rcases Nat.lt_or_ge b (sn 0).hp.length with hb0 | hb0
  ·by_cases hbW : b ∈ W
   ·rcases I.prov b (.inr hbW) blk (by rw [hh]; exact h) g hg with h | ⟨c, hcW, hcg, hca⟩
    ·exact .inl (Nat.le_trans C.evo.size h)
    ·exact old c g hcW hcg hca
   ·have hg' := holdown b g hb0 hbW hg
    rw [hfr b hb0 hbW] at h
    rcases C.prov b (hb.elim .inl fun h => ((hWn b).1 h).elim .inr fun h => absurd h hbW) blk h g hg' with h | ⟨d, hd, hd0, hdg, hda⟩
    ·exact .inl h
    ·exact .inr ⟨d, (hWn d).2 (.inl hd), hd0, hdg, hda⟩
  ·rcases I.prov b (.inl hb0) blk (by rw [hh]; exact h) g hg with h | ⟨c, hcW, hcg, hca⟩
   ·exact .inl (Nat.le_trans C.evo.size h)
   ·exact old c g hcW hcg hca
 ·rw [hfr b (by have := C.len; omega) (fun h => hn ((hWn b).2 (.inr h)))]
  exact C.frame b hb (fun h => hn ((hWn b).2 (.inl h)))
 ·rcases (hWn b).1 hb with h | h
  ·exact C.wal b h hb0
  ·exact C.alive b hb0 (hWlt b h (by have := C.len; omega))
 ·rcases I.igrow k hk with h | h | ⟨c, hcW, hcg, hca⟩
  ·rcases C.igrow k h with h | h | ⟨d, hd, hd0, hdg, hda⟩
   ·exact .inl h
   ·exact .inr (.inl h)
   ·exact .inr (.inr ⟨d, (hWn d).2 (.inl hd), hd0, hdg, hda⟩)
  ·exact .inr (.inl (Nat.le_trans C.evo.size h))
  ·rcases old c k hcW hcg hca with h | h
   ·exact .inr (.inl h)
   ·exact .inr (.inr h)
theorem region_seq (hn : Named P) (hr : Run P ops sn ac wr) {W : List Nat} {I0 : Nat → Prop} {μ : Mu} {w : World} (hW : ∀ i, i < ops.size → ∀ b ∈ wr i, b ∈ W) (hdom : ∀ b g, μ b = some g → b < (sn 0).hp.length)
  {Q : Exit → Act → World → Prop} (hQ : ∀ L a' w' μ' Im', (∀ i, i < ops.size → L i = true) → RI P ops sn wr W I0 μ w L a' w' Im' μ' → Q .normal a' w') :
  ∀ (m k : Nat), k + m = ops.size → ∀ a w1 μ1 Im1, RI P ops sn wr W I0 μ w (fun i => decide (i < k)) a w1 Im1 μ1 → wpOps P ops Q (List.range' k m) a w1
 | 0, k, hk, a, w1, μ1, Im1, I => by
  simp only [List.range'_zero, wpOps]
  exact hQ _ _ _ _ _ (fun i hi => by simp; omega) I
 | m + 1, k, hk, a, w1, μ1, Im1, I => by
  rw [List.range'_succ, wpOps_cons]
  refine ri_step hn hr hW hdom (Array.getElem?_eq_getElem (show k < ops.size by omega)) (by simp) (fun i oi hi _ hL => by simp at hL; omega) (fun i oi hi _ hL => by simp at hL; omega) I fun a' w' μ' Im' I' => ?_
  have e : addL (fun i => decide (i < k)) k = fun i => decide (i < k + 1) := by
   funext i
   rw [Bool.eq_iff_iff]
   simp [addL]
   omega
  rw [e] at I'
  exact region_seq hn hr hW hdom hQ m (k + 1) (by omega) a' w' μ' Im' I'
structure Free (ops : Array Oper) (sn : Nat → St) (ac wr : Nat → List Nat) (i j : Nat) : Prop where
 apart : ∀ oi oj, ops[i]? = some oi → ops[j]? = some oj → oi.apart ops oj = true
 read : ∀ b ∈ ac j, touchB sn wr b i = false
 write : ∀ b ∈ wr j, b ∉ ac i
inductive Ahead (ops : Array Oper) (i : Nat) : Nat → Prop where
 | one {j : Nat} {o : Oper} {e : Edge} (ho : ops[j]? = some o) (he : e ∈ o.after) (hb : Region.binds .any e = true) (h : e.on = i) : Ahead ops i j
 | more {j : Nat} {o : Oper} {e : Edge} (ho : ops[j]? = some o) (he : e ∈ o.after) (hb : Region.binds .any e = true) (h : Ahead ops i e.on) : Ahead ops i j
def Closed (ops : Array Oper) (L : Nat → Bool) : Prop := ∀ j o e, L j = true → ops[j]? = some o → e ∈ o.after → Region.binds .any e = true → L e.on = true
theorem Ahead.closed {L : Nat → Bool} (hL : Closed ops L) {i j : Nat} (h : Ahead ops i j) (hj : L j = true) : L i = true := by
 induction h with
 | one ho he hb h => rw [← h]; exact hL _ _ _ hj ho he hb
 | more ho he hb _ ih => exact ih (hL _ _ _ hj ho he hb)
def listedL (listed : Array Bool) : Nat → Bool := fun i => listed.getD i false
theorem region_any (hn : Named P) (hr : Run P ops sn ac wr) {W : List Nat} {I0 : Nat → Prop} {μ : Mu} {w : World} (hW : ∀ i, i < ops.size → ∀ b ∈ wr i, b ∈ W) (hdom : ∀ b g, μ b = some g → b < (sn 0).hp.length)
  (hback : ∀ j o e, ops[j]? = some o → e ∈ o.after → Region.binds .any e = true → e.on < j)
  (hfree : ∀ i j, i < j → j < ops.size → Ahead ops i j ∨ Free ops sn ac wr i j)
  {Q : Exit → Act → World → Prop} (hQ : ∀ L a' w' μ' Im', (∀ i, i < ops.size → L i = true) → RI P ops sn wr W I0 μ w L a' w' Im' μ' → Q .normal a' w') :
  ∀ (fuel : Nat) (listed : Array Bool), listed.size = ops.size → listed.toList.countP (· == false) ≤ fuel → Closed ops (listedL listed) → ∀ a w1 μ1 Im1, RI P ops sn wr W I0 μ w (listedL listed) a w1 Im1 μ1 → wpAny P .any ops Q fuel listed a w1 := by
 have done : ∀ listed : Array Bool, listed.size = ops.size → Region.ready .any ops listed = [] → ∀ i, i < ops.size → listedL listed i = true := by
  intro listed hs hrd i
  induction i using Nat.strongRecOn with
  | _ i ih =>
   intro hi
   cases hl : listedL listed i with
   | true => rfl
   | false =>
    exfalso
    have hm : i ∈ Region.ready .any ops listed := by
     unfold Region.ready
     rw [List.mem_filter]
     refine ⟨by simpa using hi, ?_⟩
     have hli : listed.getD i true = false := by
      simp only [listedL, Array.getD_eq_getD_getElem?] at hl ⊢
      rw [Array.getElem?_eq_getElem (by omega)] at hl ⊢
      simpa using hl
     rw [hli, Array.getElem?_eq_getElem hi]
     simp only [Bool.not_false, Bool.true_and, Option.map_some, Option.getD_some]
     rw [Array.all_eq_true_iff_forall_mem]
     intro e he
     cases hb : Region.binds .any e with
     | false => rfl
     | true =>
      have hlt := hback i _ e (Array.getElem?_eq_getElem hi) he hb
      have := ih e.on hlt (by omega)
      simpa [listedL] using this
    rw [hrd] at hm
    simp at hm
 have step : ∀ (listed : Array Bool), listed.size = ops.size → Closed ops (listedL listed) → ∀ i, i ∈ Region.ready .any ops listed → i < ops.size ∧ listedL listed i = false ∧ (∀ e, e ∈ (ops[i]?).elim #[] (·.after) → Region.binds .any e = true → listedL listed e.on = true) := by
  intro listed hs hcl i hi
  unfold Region.ready at hi
  rw [List.mem_filter] at hi
  obtain ⟨h1, h2⟩ := hi
  have h1 : i < ops.size := by simpa using h1
  rw [Bool.and_eq_true] at h2
  obtain ⟨h2, h3⟩ := h2
  refine ⟨h1, ?_, fun e he hb => ?_⟩
  ·simp only [listedL, Array.getD_eq_getD_getElem?] at h2 ⊢
   rw [Array.getElem?_eq_getElem (by omega)] at h2 ⊢
   simpa using h2
  ·rw [Array.getElem?_eq_getElem h1] at h3 he
   simp only [Option.map_some, Option.getD_some, Option.elim_some] at h3 he
   have := (Array.all_eq_true_iff_forall_mem.1 h3) e he
   simpa [hb, listedL] using this
 intro fuel
 induction fuel with
 | zero =>
  intro listed hs hf hcl a w1 μ1 Im1 I
  have hall : ∀ i, i < ops.size → listedL listed i = true := by
   intro i hi
   have hz : listed.toList.countP (· == false) = 0 := by omega
   have hm : listed[i]'(by omega) ∈ listed.toList := by simp
   have := List.countP_eq_zero.1 hz _ hm
   simp only [listedL, Array.getD_eq_getD_getElem?]
   rw [Array.getElem?_eq_getElem (by omega)]
   simpa using this
  refine ⟨?_, hQ _ _ _ _ _ hall I⟩
  rw [List.eq_nil_iff_forall_not_mem]
  intro i hi
  obtain ⟨h1, h2, _⟩ := step listed hs hcl i hi
  rw [hall i h1] at h2; cases h2
 | succ fuel ih =>
  intro listed hs hf hcl a w1 μ1 Im1 I
  refine ⟨fun hrd => hQ _ _ _ _ _ (done listed hs hrd) I, fun i hi => ?_⟩
  obtain ⟨h1, h2, h3⟩ := step listed hs hcl i hi
  refine ri_step hn hr hW hdom (Array.getElem?_eq_getElem h1) h2 (fun k ok hk hok hL => ?_) (fun k ok hk hok hL => ?_) I fun a' w' μ' Im' I' => ?_
  ·rcases hfree k i hk h1 with h | h
   ·exfalso
    cases h with
    | one ho he hb h =>
     have := h3 _ (by rw [ho]; exact he) hb
     rw [h, hL] at this; cases this
    | more ho he hb h =>
     have := h.closed hcl (h3 _ (by rw [ho]; exact he) hb)
     rw [hL] at this; cases this
   ·exact ⟨h.apart _ _ hok (Array.getElem?_eq_getElem h1), h.read, h.write⟩
  ·have hks : k < ops.size := (Array.getElem?_eq_some_iff.1 hok).1
   rcases hfree i k hk hks with h | h
   ·have := h.closed hcl hL
    rw [h2] at this; cases this
   ·exact ⟨h.apart _ _ (Array.getElem?_eq_getElem h1) hok, h.read, h.write⟩
  ·have e : listedL (listed.setIfInBounds i true) = addL (listedL listed) i := by
    funext k
    simp only [listedL, addL, Array.getD_eq_getD_getElem?, Array.getElem?_setIfInBounds]
    by_cases hik : i = k
    ·subst hik; simp [hs, h1]
    ·have : ¬ k = i := fun e => hik e.symm
     simp [hik, this]
   refine ih _ (by simp [hs]) ?_ ?_ a' w' μ' Im' (by rw [e]; exact I')
   ·rw [Array.toList_setIfInBounds, List.countP_set (h := by simpa [hs] using h1)]
    have h2' : listed.toList[i]'(by simpa [hs] using h1) = false := by
     simp only [listedL, Array.getD_eq_getD_getElem?] at h2
     rw [Array.getElem?_eq_getElem (by omega)] at h2
     simpa using h2
    rw [h2']
    simp only [show (false == false) = true from rfl, show (true == false) = false from rfl, if_true, Bool.false_eq_true, if_false]
    omega
   ·rw [e]
    intro k o ed hk ho he hb
    simp only [addL, Bool.or_eq_true, beq_iff_eq] at hk ⊢
    rcases hk with rfl | hk
    ·exact .inr (h3 ed (by rw [ho]; exact he) hb)
    ·exact .inr (hcl k o ed hk ho he hb)
end
end Go.Proofs.YtfncaghjfgnnhaaGreatDoor

namespace Go.Proofs.YtfncaghjfgnnhaaGreatDoor
open Go.RowKit
set_option maxRecDepth 100000
abbrev Rec := St × List Nat × List Nat
inductive TraceR (P : Program) (ops : Array Oper) : List Oper → St → List Rec → St → Prop where
 | nil (s : St) : TraceR P ops [] s [] s
 | cons {o : Oper} {rest : List Oper} {s s' s2 : St} {acc wr : List Nat} {l : List Rec} (h : StepR P ops s o s' acc wr) (t : TraceR P ops rest s' l s2) : TraceR P ops (o :: rest) s ((s, acc, wr) :: l) s2
def snOf (l : List Rec) (s2 : St) (i : Nat) : St := match l[i]? with
 | some r => r.1
 | none => s2
def acOf (l : List Rec) (i : Nat) : List Nat := match l[i]? with
 | some r => r.2.1
 | none => []
def wrOf (l : List Rec) (i : Nat) : List Nat := match l[i]? with
 | some r => r.2.2
 | none => []
def maskOf (acc : List Nat) : List Edge → Nat
 | [] => 0
 | e :: es => if Region.binds .any e then (2 ^ e.on ||| acc.getD e.on 0) ||| maskOf acc es else maskOf acc es
def befL : List Oper → List Nat → List Nat
 | [], acc => acc
 | o :: os, acc => befL os (acc ++ [maskOf acc o.after.toList])
def freeB (ops : Array Oper) (l : List Rec) (s2 : St) (i j : Nat) : Bool :=
 (match ops[i]?, ops[j]? with
  | some oi, some oj => oi.apart ops oj
  | _, _ => false) &&
 (acOf l j).all (fun b => !touchB (snOf l s2) (wrOf l) b i) && (wrOf l j).all fun b => !(acOf l i).contains b
def drawOK (ops : Array Oper) (l : List Rec) (s2 : St) : Bool :=
 let ms := befL ops.toList []
 (ops.toList.zipIdx.all fun x => x.1.after.toList.all fun e => !Region.binds .any e || decide (e.on < x.2)) &&
 (List.range ops.size).all fun j => (List.range j).all fun i => (ms.getD j 0).testBit i || freeB ops l s2 i j
def evResult (P : Program) (hp : Hp) (tm : Tm) : ResultVar → Option V
 | .tmp t => some (tm.get t)
 | .cell a t => (evLoad P hp t (tm.get a)).map (·.v)
def evResultL (P : Program) (hp : Hp) (tm : Tm) : List ResultVar → Option (List V)
 | [] => some []
 | r :: rs => match evResult P hp tm r, evResultL P hp tm rs with
  | some v, some vs => some (v :: vs)
  | _, _ => none
def oneOf : List V → V
 | [v] => v
 | vs => .tup vs
section
variable {P : Program} {ops : Array Oper}
theorem trace_run : ∀ {os : List Oper} {s : St} {l : List Rec} {s2 : St}, TraceR P ops os s l s2 →
  l.length = os.length ∧ snOf l s2 0 = s ∧ (∀ (i : Nat) (o : Oper), os[i]? = some o → StepR P ops (snOf l s2 i) o (snOf l s2 (i + 1)) (acOf l i) (wrOf l i))
 | _, _, _, _, .nil s => ⟨rfl, rfl, by simp⟩
 | _, _, _, s2, .cons (o := o) (rest := rest) (s := s) (s' := s') (acc := acc) (wr := wr) (l := l') hs ht => by
  obtain ⟨h1, h2, h3⟩ := trace_run ht
  refine ⟨by simp [h1], rfl, fun i o' ho => ?_⟩
  cases i with
  | zero =>
   simp at ho; subst ho
   show StepR P ops s o (snOf ((s, acc, wr) :: l') s2 1) acc wr
   have : snOf ((s, acc, wr) :: l') s2 1 = snOf l' s2 0 := rfl
   rw [this, h2]
   exact hs
  | succ i =>
   have := h3 i o' (by simpa using ho)
   simpa [snOf, acOf, wrOf] using this
theorem mask_spec {acc : List Nat} {i : Nat} : ∀ {es : List Edge}, (maskOf acc es).testBit i = true → ∃ e ∈ es, Region.binds .any e = true ∧ (e.on = i ∨ (acc.getD e.on 0).testBit i = true)
 | [], h => by simp [maskOf] at h
 | e :: es, h => by
  unfold maskOf at h
  split at h
  ·rename_i hb
   rw [Nat.testBit_or, Nat.testBit_or, Bool.or_eq_true, Bool.or_eq_true, Nat.testBit_two_pow] at h
   rcases h with (h | h) | h
   ·exact ⟨e, by simp, hb, .inl (by simpa using h)⟩
   ·exact ⟨e, by simp, hb, .inr h⟩
   ·obtain ⟨e', he, h1, h2⟩ := mask_spec h
    exact ⟨e', by simp [he], h1, h2⟩
  ·obtain ⟨e', he, h1, h2⟩ := mask_spec h
   exact ⟨e', by simp [he], h1, h2⟩
theorem bef_spec (ops : Array Oper) : ∀ (os : List Oper) (acc : List Nat), ops.toList = (ops.toList.take acc.length) ++ os → acc.length ≤ ops.size →
  (∀ j i, (acc.getD j 0).testBit i = true → Ahead ops i j) → ∀ j i, ((befL os acc).getD j 0).testBit i = true → Ahead ops i j
 | [], acc, _, _, h => h
 | o :: os, acc, he, hl, h => by
  unfold befL
  have hlt : acc.length < ops.size := by
   have := congrArg List.length he
   simp at this; omega
  have hmin : (ops.toList.take acc.length).length = acc.length := by simp; omega
  have ho : ops[acc.length]? = some o := by
   rw [← Array.getElem?_toList, he, List.getElem?_append_right (by omega), hmin, Nat.sub_self]
   rfl
  refine bef_spec ops os _ ?_ (by simp; omega) fun j i hb => ?_
  ·rw [List.length_append, List.length_singleton, List.take_add_one, Array.getElem?_toList, ho]
   conv => lhs; rw [he]
   simp
  ·simp only [List.getD_eq_getElem?_getD] at hb
   rw [List.getElem?_append] at hb
   split at hb
   ·exact h j i (by simpa [List.getD_eq_getElem?_getD] using hb)
   ·rename_i hj
    cases hk : j - acc.length with
    | zero =>
     rw [hk] at hb
     simp at hb
     have hje : j = acc.length := by omega
     obtain ⟨e, hme, hbd, hor⟩ := mask_spec hb
     rw [hje]
     rcases hor with h1 | h1
     ·exact .one ho (by simpa using hme) hbd h1
     ·exact .more ho (by simpa using hme) hbd (h _ _ h1)
    | succ k => rw [hk] at hb; simp at hb
theorem draw_spec {l : List Rec} {s2 : St} (h : drawOK ops l s2 = true) : (∀ j o e, ops[j]? = some o → e ∈ o.after → Region.binds .any e = true → e.on < j) ∧
  (∀ i j, i < j → j < ops.size → Ahead ops i j ∨ Free ops (snOf l s2) (acOf l) (wrOf l) i j) := by
 unfold drawOK at h
 simp only [Bool.and_eq_true] at h
 obtain ⟨h1, h2⟩ := h
 refine ⟨fun j o e ho he hb => ?_, fun i j hij hj => ?_⟩
 ·rw [List.all_eq_true] at h1
  have hm : (o, j) ∈ ops.toList.zipIdx := by
   rw [List.mem_zipIdx_iff_getElem?]
   simpa using ho
  have := h1 _ hm
  rw [List.all_eq_true] at this
  have := this e (by simpa using he)
  simpa [hb] using this
 ·rw [List.all_eq_true] at h2
  have h3 := h2 j (by simpa using hj)
  rw [List.all_eq_true] at h3
  have h4 := h3 i (by simpa using hij)
  rw [Bool.or_eq_true] at h4
  rcases h4 with h4 | h4
  ·exact .inl (bef_spec ops ops.toList [] (by simp) (by simp) (by simp) j i h4)
  ·right
   unfold freeB at h4
   simp only [Bool.and_eq_true, List.all_eq_true] at h4
   obtain ⟨⟨h5, h6⟩, h7⟩ := h4
   refine ⟨fun oi oj hoi hoj => ?_, fun b hb => by simpa using h6 b hb, fun b hb => by simpa using h7 b hb⟩
   rw [hoi, hoj] at h5
   exact h5
theorem trace_key {s s' : St} : ∀ l, TraceR P ops ops.toList s l s' → ∃ (hr : Run P ops (snOf l s') (acOf l) (wrOf l)), snOf l s' 0 = s ∧ snOf l s' ops.size = s' ∧ (∀ b, b ∈ (l.flatMap (·.2.2)) ↔ ∃ i, i < ops.size ∧ b ∈ wrOf l i) ∧ (∀ b, b ∈ s'.wr ↔ b ∈ s.wr ∨ b ∈ (l.flatMap (·.2.2))) := by
 intro l hl
 obtain ⟨h1, h2, h3⟩ := trace_run hl
 have hr : Run P ops (snOf l s') (acOf l) (wrOf l) := ⟨fun i o ho => h3 i o (by simpa using ho)⟩
 have hsz : l.length = ops.size := by simpa using h1
 have hW : ∀ b, b ∈ (l.flatMap (·.2.2)) ↔ ∃ i, i < ops.size ∧ b ∈ wrOf l i := by
  intro b
  rw [List.mem_flatMap]
  constructor
  ·rintro ⟨r, hrl, hb⟩
   obtain ⟨i, hi, rfl⟩ := List.getElem_of_mem hrl
   exact ⟨i, by omega, by simp [wrOf, List.getElem?_eq_getElem hi, hb]⟩
  ·rintro ⟨i, hi, hb⟩
   have hil : i < l.length := by omega
   exact ⟨l[i], List.getElem_mem hil, by simpa [wrOf, List.getElem?_eq_getElem hil] using hb⟩
 have hend : snOf l s' ops.size = s' := by simp [snOf, hsz]
 refine ⟨hr, h2, hend, hW, fun b => ?_⟩
 have hwr : ∀ i, i ≤ ops.size → (b ∈ (snOf l s' i).wr ↔ b ∈ s.wr ∨ ∃ k, k < i ∧ b ∈ wrOf l k) := by
  intro i
  induction i with
  | zero => intro _; rw [h2]; simp
  | succ i ih =>
   intro hi
   obtain ⟨_, hw, _⟩ := hr.parts i _ (Array.getElem?_eq_getElem (show i < ops.size by omega))
   rw [hw, List.mem_append, ih (by omega)]
   constructor
   ·rintro ((h | ⟨k, hk, h⟩) | h)
    ·exact .inl h
    ·exact .inr ⟨k, by omega, h⟩
    ·exact .inr ⟨i, by omega, h⟩
   ·rintro (h | ⟨k, hk, h⟩)
    ·exact .inl (.inl h)
    ·by_cases e : k = i
     ·subst e; exact .inr h
     ·exact .inl (.inr ⟨k, by omega, h⟩)
 rw [hW]
 have := hwr ops.size (Nat.le_refl _)
 rw [hend] at this
 exact this
structure SR (hp0 : Hp) (s : St) : Prop where
 len : hp0.length ≤ s.hp.length
 frame : ∀ b, b < hp0.length → b ∉ s.wr → s.hp[b]? = hp0[b]?
 alive : ∀ b, b < hp0.length → Alive s.hp b → Alive hp0 b
theorem region_static {s s' : St} {l : List Rec} (hl : TraceR P ops ops.toList s l s') {hp0 : Hp} (C : SR hp0 s) : SR hp0 s' := by
 obtain ⟨hr, h0, hN, hW, hWn⟩ := trace_key l hl
 have hl := lens hr (Nat.zero_le ops.size) (Nat.le_refl _)
 rw [h0, hN] at hl
 refine ⟨Nat.le_trans C.len hl, fun b hb hn => ?_, fun b hb h => ?_⟩
 ·have := run_frame hr (c := b) (by rw [h0]; have := C.len; omega) (fun i hi hbi => hn ((hWn b).2 (.inr ((hW b).2 ⟨i, hi, hbi⟩)))) ops.size (Nat.le_refl _)
  rw [h0, hN] at this
  rw [this]
  exact C.frame b hb fun h => hn ((hWn b).2 (.inl h))
 ·have := run_alive hr (c := b) (by rw [h0]; have := C.len; omega) ops.size (Nat.le_refl _) (by rw [hN]; exact h)
  rw [h0] at this
  exact C.alive b hb this
theorem region_sound (hm : P.follows .mixedOrders = true) (hn : Named P) {draw : Bool} {s s' : St} {l : List Rec} (hl : TraceR P ops ops.toList s l s') (hd : draw = true → drawOK ops l s' = true) {hp0 : Hp} {I0 Im : Nat → Prop} {μ0 μ : Mu} {w0 w : World} {a : Act}
  (C : CI P hp0 I0 μ0 w0 s a w Im μ) {id : Nat} {Q : Exit → Act → World → Prop} (hQ : ∀ a' w' μ' Im', CI P hp0 I0 μ0 w0 s' a' w' Im' μ' → Q .normal a' w') : (Code.region id ops draw).wp P Q a w := by
 obtain ⟨hr, h0, hN, hW, hWn⟩ := trace_key l hl
 cases draw
 ·refine wp_region ?_
  rw [show List.range ops.size = List.range' 0 ops.size from List.range_eq_range' ..]
  refine region_seq hn hr (W := l.flatMap (·.2.2)) (fun i hi b hb => (hW b).2 ⟨i, hi, hb⟩) (by rw [h0]; exact C.dom) (fun L a' w' μ' Im' hL I => hQ a' w' μ' Im' ?_) ops.size 0 (by omega) a w μ Im (ri_start (fun i => by simp) (by rw [h0]; exact C) w (.inl rfl))
  have := ci_region hr hL hW (by rw [hN, h0]; exact hWn) (by rw [h0]; exact C) I
  rwa [hN] at this
 ·obtain ⟨hback, hfree⟩ := draw_spec (hd rfl)
  refine wp_region_any hm ?_
  refine region_any hn hr (W := l.flatMap (·.2.2)) (fun i hi b hb => (hW b).2 ⟨i, hi, hb⟩) (by rw [h0]; exact C.dom) hback hfree (fun L a' w' μ' Im' hL I => hQ a' w' μ' Im' ?_) ops.size _ (by simp) (Nat.le_trans List.countP_le_length (by simp)) ?_ a _ μ Im (ri_start (fun i => ?_) (by rw [h0]; exact C) w.drew (.inr rfl))
  ·have := ci_region hr hL hW (by rw [hN, h0]; exact hWn) (by rw [h0]; exact C) I
   rwa [hN] at this
  ·intro j o e hj
   simp only [listedL, Array.getD_eq_getD_getElem?, Array.getElem?_replicate] at hj
   split at hj <;> cases hj
  ·simp only [listedL, Array.getD_eq_getD_getElem?, Array.getElem?_replicate]
   split <;> rfl
def Ex.toExit : Ex → Exit
 | .normal => .normal
 | .exit id => .exit id
 | .ret => .ret
end
end Go.Proofs.YtfncaghjfgnnhaaGreatDoor

namespace Go.Proofs.YtfncaghjfgnnhaaGreatDoor
open Go.RowKit
set_option maxRecDepth 100000
section
variable {P : Program} {callF : CallF}
def resSem (tmps : Array Value) : ResultVar → Sem Value
 | .tmp t => pure (tmps.getD t undef)
 | .cell x t => do loadVar t (← asAddr (tmps.getD x undef))
theorem load_hp {hp : Hp} {t : TypeId} {x : V} {out : Out} (h : evLoad P hp t x = some out) : out.hp = hp := by
 unfold evLoad at h
 repeat' split at h
 all_goals first | (cases h; done) | (cases h; rfl)
theorem result_sound {hp : Hp} {tm : Tm} {a : Act} {w : World} {Im : Nat → Prop} {μ : Mu} (htm : ∀ t, V.R P Im μ w (tm.get t) (a.tmps.getD t undef)) (hh : ∀ b blk, hp[b]? = some (some blk) → Holds P Im μ w b blk)
  (hil : ILt P Im w) (hi : ∀ b c blk blk' g, b ≠ c → hp[b]? = some (some blk) → hp[c]? = some (some blk') → μ.own b g → μ.own c g → False) {r : ResultVar} {v : V} (h : evResult P hp tm r = some v) :
  ∃ val, (resSem a.tmps r).run P w = .ok val w ∧ V.R P Im μ w v val := by
 unfold resSem
 unfold evResult at h
 split at h
 ·cases h; exact ⟨_, rfl, htm _⟩
 ·rename_i x t
  obtain ⟨out, ho, rfl⟩ := Option.map_eq_some_iff.1 h
  have hx := asPtr_R (htm x)
  have e : out.hp = hp := load_hp ho
  obtain ⟨h1, h2, h3, val, hr, hR⟩ := load_sound ho (htm x) ⟨hil, fun b _ blk hb => hh b blk hb, fun b _ c _ b1 b2 g hne hb hc => hi b c b1 b2 g hne hb hc, fun b hb hb' => by
   rw [e] at hb'; omega⟩
  refine ⟨val, ?_, hR⟩
  have key : ∃ ad, a.tmps.getD x undef = .pointer (some ad) := by
   unfold evLoad at ho
   split at ho
   case h_3 => cases ho
   case h_2 cs hxe =>
    rw [hxe] at hx
    simp only [V.R] at hx
    obtain ⟨g, off, hg, _⟩ := hx
    exact ⟨_, hg⟩
   case h_1 b off hxe =>
    rw [hxe] at hx
    simp only [V.R] at hx
    obtain ⟨g, _, hg⟩ := hx
    exact ⟨_, hg⟩
  obtain ⟨ad, hg⟩ := key
  simp only [hg, Instr.loadAt, Instr.sureAddr, Sem.run_bind, Sem.run_pure, Result.andThen_ok] at hr
  simp only [hg, asAddr, Sem.run_bind, Sem.run_pure, Result.andThen_ok]
  exact hr
theorem resultL_sound {hp : Hp} {tm : Tm} {a : Act} {w : World} {Im : Nat → Prop} {μ : Mu} (htm : ∀ t, V.R P Im μ w (tm.get t) (a.tmps.getD t undef)) (hh : ∀ b blk, hp[b]? = some (some blk) → Holds P Im μ w b blk)
  (hil : ILt P Im w) (hi : ∀ b c blk blk' g, b ≠ c → hp[b]? = some (some blk) → hp[c]? = some (some blk') → μ.own b g → μ.own c g → False) : ∀ {rs : List ResultVar} {vs : List V}, evResultL P hp tm rs = some vs →
  ∃ vals : List Value, (rs.mapM (resSem a.tmps)).run P w = .ok vals w ∧ V.RL P Im μ w vs vals
 | [], vs, h => by cases h; exact ⟨[], rfl, by simp [V.RL]⟩
 | r :: rs, vs, h => by
  unfold evResultL at h
  split at h
  case h_2 => cases h
  case h_1 v vs' h1 h2 =>
  cases h
  obtain ⟨val, hr, hR⟩ := result_sound htm hh hil hi h1
  obtain ⟨vals, hrs, hRs⟩ := resultL_sound htm hh hil hi h2
  refine ⟨val :: vals, ?_, by simp only [V.RL]; exact ⟨_, _, rfl, hR, hRs⟩⟩
  rw [List.mapM_cons, Sem.run_bind, hr]
  simp only [Result.andThen_ok, Sem.run_bind, hrs, Sem.run_pure]
theorem results_sound {fn : Func} {hp : Hp} {tm : Tm} {a : Act} {w : World} {Im : Nat → Prop} {μ : Mu} (htm : ∀ t, V.R P Im μ w (tm.get t) (a.tmps.getD t undef)) (hh : ∀ b blk, hp[b]? = some (some blk) → Holds P Im μ w b blk)
  (hil : ILt P Im w) (hi : ∀ b c blk blk' g, b ≠ c → hp[b]? = some (some blk) → hp[c]? = some (some blk') → μ.own b g → μ.own c g → False) {vs : List V} (h : evResultL P hp tm fn.results.toList = some vs) :
  ∃ val, (results fn a.tmps).run P w = .ok val w ∧ V.R P Im μ w (oneOf vs) val := by
 obtain ⟨vals, hr, hR⟩ := resultL_sound htm hh hil hi h
 have hl := hR.length
 have hrun : (results fn a.tmps).run P w = .ok (if h : vals.toArray.size = 1 then vals.toArray[0] else .tuple vals.toArray) w := by
  have e : results fn a.tmps = (do let vs ← fn.results.mapM (resSem a.tmps); pure (if h : vs.size = 1 then vs[0] else .tuple vs)) := by
   unfold results
   first | rfl | (congr 1; congr 1; funext r; cases r <;> rfl) | (congr 1)
  rw [e, Sem.run_bind, Array.mapM_eq_mapM_toList]
  simp only [map_eq_pure_bind, Sem.run_bind, Sem.run_pure]
  rw [hr]
  simp only [Result.andThen_ok]
 refine ⟨_, hrun, ?_⟩
 match vs, vals, hR, hl with
 | [], [], _, _ => simp [oneOf, V.R, V.RL]
 | [v], [u], hR, _ =>
  simp only [V.RL] at hR
  obtain ⟨u', us, e, h1, _⟩ := hR
  cases e
  simpa [oneOf] using h1
 | v1 :: v2 :: vs, u1 :: u2 :: us, hR, _ => simp only [oneOf]; simp; simp only [V.R]; exact ⟨_, rfl, by simpa using hR⟩
end
mutual
def V.fz (v : V) : V := match v with
 | .osl _ n o cs => .dsl n false (match o with
  | true => V.fzL cs
  | false => cs)
 | v => v
def V.fzL (l : List V) : List V := match l with
 | [] => []
 | c :: cs => V.fz c :: V.fzL cs
end
def fzS : Bool → List V → List V
 | true, c => V.fzL c
 | false, c => c
theorem fz_osl {T : TypeId} {n : Nat} {o : Bool} {cs : List V} : V.fz (.osl T n o cs) = .dsl n false (fzS o cs) := by
 cases o <;> simp [V.fz, fzS]
def frzSeg (f : V → V) : List V → List V
 | [] => []
 | x :: t => match x with
  | .sld c => match t with
   | [] => c
   | _ :: _ => c ++ frzSeg f t
  | .slo c => match t with
   | [] => V.fzL c
   | _ :: _ => V.fzL c ++ frzSeg f t
  | x => f x :: frzSeg f t
theorem frzSeg_seal {f : V → V} {o : Bool} {c : List V} : ∀ {t : List V}, frzSeg f (mkS o c :: t) = fzS o c ++ frzSeg f t
 | [] => by cases o <;> simp [frzSeg, mkS, fzS]
 | y :: u => by cases o <;> rfl
theorem frzSeg_cons {f : V → V} {x : V} {t : List V} (hx : x.seals = none) : frzSeg f (x :: t) = f x :: frzSeg f t := by
 cases x <;> first | rfl | simp [V.seals] at hx
def frzIn (P : Program) (hp : Hp) (kept : List Nat) (m : Nat) : Nat → V → V
 | 0, _ => .junk
 | n + 1, v => match v with
  | .sl b off k full => if kept.contains b || decide (b < m) then .junk else
   match hp[b]? with
   | some (some blk) => match hasSeal blk.1 with
    | true => if Nat.beq off 0 then .dsl k false (frzSeg (frzIn P hp kept m n) blk.1) else .junk
    | false => match szOf P blk.2 with
     | some s => if ((blk.1.drop off).take (k * s)).length = k * s then .dsl k false (((blk.1.drop off).take (k * s)).map (frzIn P hp kept m n)) else .junk
     | none => .junk
   | _ => .junk
  | .ptr _ _ => .junk
  | .agg cs => .agg (cs.map (frzIn P hp kept m n))
  | .tup cs => .tup (cs.map (frzIn P hp kept m n))
  | .fn f cs => .fn f (cs.map (frzIn P hp kept m n))
  | .box f cs => .box f (cs.map (frzIn P hp kept m n))
  | .dsl k _ cs => .dsl k false cs
  | .osl _ k o cs => .dsl k false (fzS o cs)
  | .eptr _ _ _ => .junk
  | v => v
def frz (P : Program) (hp : Hp) (kept : List Nat) (m : Nat) : Nat → V → V
 | 0, _ => .junk
 | n + 1, v => match v with
  | .sl b off k full => match pos kept b with
   | some j => .sl j off k full
   | none => frzIn P hp kept m (n + 1) (.sl b off k full)
  | .ptr b off => match pos kept b with
   | some j => .ptr j off
   | none => .junk
  | .eptr b base rel => match pos kept b with
   | some j => .eptr j base rel
   | none => .junk
  | .agg cs => .agg (cs.map (frz P hp kept m n))
  | .tup cs => .tup (cs.map (frz P hp kept m n))
  | .fn f cs => .fn f (cs.map (frz P hp kept m n))
  | .box f cs => .box f (cs.map (frz P hp kept m n))
  | v => v
mutual
def V.can : V → V
 | .dsl n _ cs => .dsl n false cs
 | .agg cs => .agg (V.canL cs)
 | .tup cs => .tup (V.canL cs)
 | .int k n => .int k n
 | .bool b => .bool b
 | .str s => .str s
 | .nilp => .nilp
 | .ptr b o => .ptr b o
 | .sl b o n f => .sl b o n f
 | .dptr cs => .dptr cs
 | .sld cs => .sld cs
 | .slo cs => .slo cs
 | .eptr b o r => .eptr b o r
 | .osl T n o cs => .osl T n o cs
 | .fn f cs => .fn f cs
 | .box f cs => .box f cs
 | .nilf => .nilf
 | .lit u => .lit u
 | .junk => .junk
def V.canL : List V → List V
 | [] => []
 | c :: cs => V.can c :: V.canL cs
end
def flatC : List V → List V
 | [] => []
 | x :: t => match x with
  | .sld c => match t with
   | [] => c
   | _ :: _ => c ++ flatC t
  | .slo c => match t with
   | [] => c
   | _ :: _ => c ++ flatC t
  | x => V.can x :: flatC t
theorem flatC_seal {o : Bool} {c : List V} : ∀ {t : List V}, flatC (mkS o c :: t) = c ++ flatC t
 | [] => by cases o <;> simp [flatC, mkS]
 | y :: u => by cases o <;> rfl
def soleSeal : List V → Bool
 | [x] => match x with
  | .sld _ => true
  | .slo _ => true
  | _ => false
 | _ => false
def sealSt (m b : Nat) (s : St) : St :=
 match s.hp[b]? with
 | some (some blk) => match Nat.ble m b && !(soleSeal blk.1), V.refsL blk.1 with
  | true, [] => ⟨s.tm, s.hp.set b (some ([mkS (hasO blk.1) (flatC blk.1)], blk.2)), s.wr⟩
  | _, _ => s
 | _ => s
def sealAll (m : Nat) : List Nat → St → St
 | [], s => s
 | b :: bs, s => sealAll m bs (sealSt m b s)
section
variable {P : Program} {callF : CallF}
theorem fz_plain {c : V} (h : c.isO = false) : V.fz c = c := by
 cases c
 case osl => simp [V.isO] at h
 all_goals (rw [V.fz]; intro T n o cs e; cases e)
mutual
theorem fz_sound {I I' : Nat → Prop} {w : World} (hsub : Sub I I') : ∀ (c : V) (F : List Nat) (u : Value), (∀ k ∈ F, I' k) → V.O P I w F c u → V.R P I' noMu w (V.fz c) u
 | c, F, u, hF, h => by
  cases hc : c.isO with
  | false =>
   rw [fz_plain hc]
   exact ((O_plain hc).1 h).2.keep (.refl w (fun _ => False)) hsub (.refl _)
  | true =>
   cases c
   case osl T n o cs =>
    rw [fz_osl]
    simp only [V.R]
    rcases O_osl.1 h with ⟨rfl, rfl, a', rfl, ha'⟩ | ⟨g, cap, i, cells, fr, F', rfl, rfl, h3, h4, h5, h6, h7, h8, h9, h10⟩
    ·exact ⟨a', 0, rfl, Nat.le_refl _, fun _ => rfl, ha'.imp (fun h => ⟨h, rfl⟩) id, .inr (.inl rfl)⟩
    ·have h11 : V.RL P I' noMu w (fzS o cs) (cells.toList.take cs.length) := by
      cases o with
      | true => exact fzL_sound hsub cs F' _ (fun k hk => hF k (by simp [hk])) h10
      | false => exact h10.2.keep (.refl w (fun _ => False)) hsub (.refl _)
     have hl := h11.length
     have hl2 : (cells.toList.take cs.length).length = cs.length := by rw [List.length_take]; simp only [Array.length_toList]; omega
     rw [hl2] at hl
     exact ⟨_, cap, rfl, h3, by simp, .inr ⟨_, _, rfl⟩, .inr <| .inr ⟨g, 0, rfl, hF g (by simp), cells, _, fr, h6, by rw [← hl]; exact h11⟩⟩
   all_goals simp [V.isO] at hc
theorem fzL_sound {I I' : Nat → Prop} {w : World} (hsub : Sub I I') : ∀ (cs : List V) (F : List Nat) (us : List Value), (∀ k ∈ F, I' k) → V.OL P I w F cs us → V.RL P I' noMu w (V.fzL cs) us
 | [], F, us, _, h => by
  obtain ⟨_, rfl⟩ := OL_nil.1 h
  rw [V.fzL]; simp [V.RL]
 | c :: cs, F, us, hF, h => by
  obtain ⟨u, us', F1, F2, rfl, rfl, h1, h2⟩ := OL_cons.1 h
  rw [V.fzL]
  simp only [V.RL]
  exact ⟨u, us', rfl, fz_sound hsub c F1 u (fun k hk => hF k (by simp [hk])) h1, fzL_sound hsub cs F2 us' (fun k hk => hF k (by simp [hk])) h2⟩
end
theorem fzS_sound {I I' : Nat → Prop} {w : World} (hsub : Sub I I') {o : Bool} {F : List Nat} {c : List V} {us : List Value} (hF : ∀ k ∈ F, I' k) (h : OS P I w o F c us) : V.RL P I' noMu w (fzS o c) us := by
 cases o
 ·exact h.2.keep (.refl w (fun _ => False)) hsub (.refl _)
 ·exact fzL_sound hsub c F us hF h
theorem frzSeg_sound {I I' : Nat → Prop} {μ : Mu} {w : World} {f : V → V} (h : ∀ c F u, (∀ k ∈ F, I' k) → OX P I μ w F c u → V.R P I' noMu w (f c) u) (hsub : Sub I I') : ∀ {l : List V} {F : List Nat} {vs : List Value}, (∀ k ∈ F, I' k) → CR P I μ w F l vs → V.RL P I' noMu w (frzSeg f l) vs
 | [], F, _, _, k => by
  obtain ⟨_, rfl⟩ := CR.nil_iff.1 k
  simp [frzSeg, V.RL]
 | x :: t, F, vs, hF, k => by
  rcases seal_or x with ⟨o, c, rfl⟩ | hx
  ·obtain ⟨us, vs', F1, F2, rfl, rfl, h1, h2⟩ := CR.sealO_iff.1 k
   rw [frzSeg_seal]
   exact (fzS_sound hsub (fun k hk => hF k (by simp [hk])) h1).append (frzSeg_sound h hsub (fun k hk => hF k (by simp [hk])) h2)
  ·obtain ⟨u, us, F1, F2, rfl, rfl, h1, h2⟩ := (CR.cons_iff hx).1 k
   rw [frzSeg_cons hx]
   simp only [V.RL]
   exact ⟨u, us, rfl, h _ _ _ (fun k hk => hF k (by simp [hk])) h1, frzSeg_sound h hsub (fun k hk => hF k (by simp [hk])) h2⟩
theorem mapSeg_sound {I I' : Nat → Prop} {μ μ' : Mu} {w : World} {f : V → V} (h : ∀ c u, V.R P I μ w c u → V.R P I' μ' w (f c) u) (hf : ∀ c, c.isO = true → f c = c) (hs : ∀ o c, f (mkS o c) = mkS o c) (hsub : Sub I I') : ∀ {l : List V} {F : List Nat} {vs : List Value}, CR P I μ w F l vs → CR P I' μ' w F (l.map f) vs
 | [], F, _, k => CR.nil_iff.2 (CR.nil_iff.1 k)
 | x :: t, F, vs, k => by
  rw [List.map_cons]
  rcases seal_or x with ⟨o, c, rfl⟩ | hx
  ·obtain ⟨us, vs', F1, F2, rfl, rfl, h1, h2⟩ := CR.sealO_iff.1 k
   rw [hs]
   exact CR.sealO_iff.2 ⟨us, vs', F1, F2, rfl, rfl, h1.keep (.refl w (fun _ => False)) hsub (fun _ _ h => h), mapSeg_sound h hf hs hsub h2⟩
  ·obtain ⟨u, us, F1, F2, rfl, rfl, h1, h2⟩ := (CR.cons_iff hx).1 k
   cases hc : x.isO with
   | true =>
    rw [hf x hc]
    unfold OX at h1
    rw [hc] at h1
    exact (CR.cons_iff hx).2 ⟨u, us, F1, F2, rfl, rfl, OX_ofO (V.O.keep (.refl w (fun _ => False)) hsub x F1 u (fun _ _ h => h) h1), mapSeg_sound h hf hs hsub h2⟩
   | false =>
    obtain ⟨rfl, h1'⟩ := h1.plain hc
    have h3 := h _ _ h1'
    exact (CR.cons_iff (R_noS h3)).2 ⟨u, us, [], F2, rfl, rfl, OX_ofR h3, mapSeg_sound h hf hs hsub h2⟩
mutual
theorem R_can {I : Nat → Prop} {μ : Mu} {w : World} : ∀ (v : V) (u : Value), V.R P I μ w v u → V.R P I μ w (V.can v) u
 | .int _ _, _, h => by simpa only [V.can, V.R] using h
 | .bool _, _, h => by simpa only [V.can, V.R] using h
 | .str _, _, h => by simpa only [V.can, V.R] using h
 | .nilp, _, h => by simpa only [V.can, V.R] using h
 | .ptr _ _, _, h => by simpa only [V.can, V.R] using h
 | .sl _ _ _ _, _, h => by simpa only [V.can, V.R] using h
 | .dsl _ _ _, _, h => by
  simp only [V.can, V.R] at h ⊢
  obtain ⟨a, cap, h1, h2, _, h4, h5⟩ := h
  exact ⟨a, cap, h1, h2, by simp, h4, h5⟩
 | .dptr _, _, h => by simpa only [V.can, V.R] using h
 | .sld _, _, h => by simp [V.R] at h
 | .slo _, _, h => by simp [V.R] at h
 | .eptr _ _ _, _, h => by simpa only [V.can, V.R] using h
 | .osl _ _ _ _, _, h => by simp [V.R] at h
 | .agg cs, _, h => by
  simp only [V.can, V.R] at h ⊢
  obtain ⟨vs, h1, h2⟩ := h
  exact ⟨vs, h1, RL_can cs _ h2⟩
 | .tup cs, _, h => by
  simp only [V.can, V.R] at h ⊢
  obtain ⟨vs, h1, h2⟩ := h
  exact ⟨vs, h1, RL_can cs _ h2⟩
 | .fn _ cs, _, h => by simpa only [V.can, V.R] using h
 | .box _ cs, _, h => by simpa only [V.can, V.R] using h
 | .nilf, _, h => by simpa only [V.can, V.R] using h
 | .lit _, _, h => by simpa only [V.can, V.R] using h
 | .junk, _, _ => by simp [V.can, V.R]
theorem RL_can {I : Nat → Prop} {μ : Mu} {w : World} : ∀ (cs : List V) (us : List Value), V.RL P I μ w cs us → V.RL P I μ w (V.canL cs) us
 | [], _, h => by simpa only [V.canL, V.RL] using h
 | c :: cs, _, h => by
  simp only [V.canL, V.RL] at h ⊢
  obtain ⟨u, us', h1, h2, h3⟩ := h
  exact ⟨u, us', h1, R_can c u h2, RL_can cs us' h3⟩
end
theorem flatC_cons {x : V} {t : List V} (hx : x.seals = none) : flatC (x :: t) = V.can x :: flatC t := by
 cases x <;> first | rfl | simp [V.seals] at hx
theorem can_isO (x : V) : (V.can x).isO = x.isO := by cases x <;> first | rfl | (simp only [V.can]; done)
theorem can_O {x : V} (h : x.isO = true) : V.can x = x := by cases x <;> first | (simp [V.isO] at h; done) | (simp only [V.can])
theorem CR.canL {I : Nat → Prop} {μ : Mu} {w : World} : ∀ {l : List V} {F : List Nat} {vs : List Value}, V.refsL l = [] → CR P I μ w F l vs → OS P I w (hasO l) F (flatC l) vs
 | [], F, _, _, h => by
  obtain ⟨rfl, rfl⟩ := CR.nil_iff.1 h
  exact OS_nil
 | x :: t, F, vs, hr, h => by
  simp only [V.refsL, List.append_eq_nil_iff] at hr
  have ht : ∀ {F : List Nat} {vs : List Value}, CR P I μ w F t vs → V.OL P I w F (flatC t) vs := fun h => (CR.canL hr.2 h).toOL
  have hcons : hasO (x :: t) = (hasO [x] || hasO t) := by simp [hasO]
  rcases seal_or x with ⟨o, c, rfl⟩ | hx
  ·obtain ⟨us, vs', F1, F2, rfl, rfl, h1, h2⟩ := CR.sealO_iff.1 h
   rw [flatC_seal]
   have ho : hasO [mkS o c] = o := by cases o <;> rfl
   rw [hcons, ho]
   have ih := CR.canL hr.2 h2
   cases o
   ·rw [Bool.false_or]
    obtain ⟨rfl, h1⟩ := h1
    cases hq : hasO t with
    | false =>
     rw [hq] at ih
     exact ⟨ih.1, h1.append ih.2⟩
    | true =>
     show V.OL P I w _ _ _
     exact (OL_ofRL h1).append ih.toOL
   ·rw [Bool.true_or]
    show V.OL P I w _ _ _
    exact h1.toOL.append ih.toOL
  ·obtain ⟨u, us, F1, F2, rfl, rfl, h1, h2⟩ := (CR.cons_iff hx).1 h
   rw [flatC_cons hx]
   have ih := CR.canL hr.2 h2
   rw [hcons]
   cases hc : x.isO with
   | true =>
    have : hasO [x] = true := by cases x <;> first | rfl | simp [V.isO] at hc
    rw [this, Bool.true_or, can_O hc]
    unfold OX at h1
    rw [hc] at h1
    show V.OL P I w _ _ _
    exact OL_cons.2 ⟨u, us, F1, F2, rfl, rfl, h1, ih.toOL⟩
   | false =>
    obtain ⟨rfl, h1'⟩ := h1.plain hc
    have h3 := R_can x u (R_nomu x u hr.1 h1')
    cases hq : (hasO [x] || hasO t) with
    | true =>
     show V.OL P I w _ _ _
     exact OL_cons.2 ⟨u, us, [], F2, rfl, rfl, (O_plain (by rw [can_isO]; exact hc)).2 ⟨rfl, h3⟩, ih.toOL⟩
    | false =>
     rw [Bool.or_eq_false_iff] at hq
     rw [hq.2] at ih
     refine ⟨ih.1, ?_⟩
     simp only [V.RL]
     exact ⟨u, us, rfl, h3, ih.2⟩
theorem frzIn_noS {hp : Hp} {kept : List Nat} {m n : Nat} {x : V} (hx : x.seals = none) : (frzIn P hp kept m n x).seals = none := by
 cases n with
 | zero => rfl
 | succ n =>
  cases x <;> first | (simp [V.seals] at hx; done) | skip
  all_goals (unfold frzIn; repeat' split)
  all_goals first | rfl | (rename_i h; cases h; rfl)
theorem frz_noS {hp : Hp} {kept : List Nat} {m n : Nat} {x : V} (hx : x.seals = none) : (frz P hp kept m n x).seals = none := by
 cases n with
 | zero => rfl
 | succ n =>
  cases x <;> first | (simp [V.seals] at hx; done) | skip
  all_goals (unfold frz; repeat' split)
  all_goals first | rfl | (exact frzIn_noS rfl) | (rename_i h; cases h; rfl)
theorem flat_map_length {f : V → V} (hs : ∀ o c, f (mkS o c) = mkS o c) (hf : ∀ x, x.seals = none → (f x).seals = none) : ∀ l : List V, (flat (l.map f)).length = (flat l).length
 | [] => rfl
 | x :: t => by
  rw [List.map_cons]
  rcases seal_or x with ⟨o, c, rfl⟩ | hx
  ·rw [hs, flat_sealO, flat_sealO, List.length_append, List.length_append, flat_map_length hs hf t]
  ·rw [flat_cons hx, flat_cons (hf x hx), List.length_cons, List.length_cons, flat_map_length hs hf t]
structure Weak (P : Program) (m : Nat) (s s' : St) : Prop where
 st : ∀ hp0 : Hp, hp0.length = m → SR hp0 s → SR hp0 s'
 run : ∀ {hp0 : Hp} {I0 : Nat → Prop} {μ0 : Mu} {w0 : World}, hp0.length = m → ∀ {a : Act} {w : World} {Im : Nat → Prop} {μ : Mu}, CI P hp0 I0 μ0 w0 s a w Im μ → ∃ Im' μ', CI P hp0 I0 μ0 w0 s' a w Im' μ'
def normTm (P : Program) (hp : Hp) (perm : List Nat) (m : Nat) (tm : Tm) : List Nat → Tm → Tm
 | [], t => t
 | i :: is, t => normTm P hp perm m tm is (t.put i (frz P hp perm m 100 (tm.get i)))
def normSt (P : Program) (m : Nat) (keep perm : List Nat) (s : St) : St :=
 ⟨normTm P s.hp perm m s.tm keep ⟨s.tm.n, Tr.mk0 11⟩,
  perm.map (fun b => if decide (b < m) && !s.wr.contains b then s.hp.getD b none else (s.hp.getD b none).map fun blk => (blk.1.map (frz P s.hp perm m 100), blk.2)),
  (s.wr.filter fun b => decide (b < m)).eraseDups⟩
theorem normTm_get (hp : Hp) (perm : List Nat) (m : Nat) (tm : Tm) (t : Nat) : ∀ (is : List Nat) (t0 : Tm), (normTm P hp perm m tm is t0).get t = t0.get t ∨ (normTm P hp perm m tm is t0).get t = .junk ∨ (normTm P hp perm m tm is t0).get t = frz P hp perm m 100 (tm.get t)
 | [], _ => .inl rfl
 | i :: is, t0 => by
  unfold normTm
  rcases normTm_get hp perm m tm t is (t0.put i (frz P hp perm m 100 (tm.get i))) with h | h | h
  ·by_cases e : i = t
   ·subst e
    rcases t0.get_eq i (frz P hp perm m 100 (tm.get i)) with h2 | h2
    ·right; right; rw [h, h2.1]
    ·right; left; rw [h, h2]
   ·left; rw [h, t0.get_ne _ e]
  ·exact .inr (.inl h)
  ·exact .inr (.inr h)
theorem normTm_n (hp : Hp) (perm : List Nat) (m : Nat) (tm : Tm) : ∀ (is : List Nat) (t0 : Tm), (normTm P hp perm m tm is t0).n = t0.n
 | [], _ => rfl
 | _ :: is, t0 => by unfold normTm; rw [normTm_n hp perm m tm is]; rfl
def permOK (m : Nat) (perm : List Nat) : Bool := (List.range m).all (fun j => perm[j]? == some j) && decide perm.Nodup
structure WeakV (P : Program) (m : Nat) (s s' : St) (f : V → V) : Prop where
 st : ∀ hp0 : Hp, hp0.length = m → SR hp0 s → SR hp0 s'
 run : ∀ {hp0 : Hp} {I0 : Nat → Prop} {μ0 : Mu} {w0 : World}, hp0.length = m → ∀ {a : Act} {w : World} {Im : Nat → Prop} {μ : Mu}, CI P hp0 I0 μ0 w0 s a w Im μ → ∃ Im' μ', CI P hp0 I0 μ0 w0 s' a w Im' μ' ∧ ∀ v u, V.R P Im μ w v u → V.R P Im' μ' w (f v) u
theorem norm_weakV {m : Nat} {keep ids : List Nat} {s : St} (hp : permOK m ids = true) : WeakV P m s (normSt P m keep ids s) (frz P s.hp ids m 100) := by
 unfold permOK at hp
 rw [Bool.and_eq_true, List.all_eq_true, decide_eq_true_eq] at hp
 obtain ⟨hlow1, hnd'⟩ := hp
 have hlow0 : ∀ j, j < m → ids[j]? = some j := fun j hj => by simpa using hlow1 j (by simpa using hj)
 have hlen : m ≤ ids.length := by
  rcases Nat.lt_or_ge ids.length m with h | h
  ·have := hlow0 ids.length h
   simp at this
  ·exact h
 constructor
 ·intro hp0 e hst
  have hget : ∀ b, b < m → s.hp[b]? = some (s.hp.getD b none) := by
   intro b hb
   have : b < s.hp.length := by have := hst.len; omega
   rw [List.getD_eq_getElem?_getD, List.getElem?_eq_getElem this]; rfl
  refine ⟨by simp only [normSt, List.length_map]; omega, fun b hb hn => ?_, fun b hb h => ?_⟩
  ·have hnw : b ∉ s.wr := fun h => hn (by simp only [normSt, List.mem_eraseDups, List.mem_filter]; exact ⟨h, by simpa using (show b < m by omega)⟩)
   simp only [normSt]
   rw [List.getElem?_map, hlow0 b (by omega)]
   simp only [Option.map_some]
   rw [if_pos (by simp [hnw, show b < m by omega]), ← hget b (by omega)]
   exact hst.frame b hb hnw
  ·obtain ⟨blk, h⟩ := h
   simp only [normSt] at h
   rw [List.getElem?_map, hlow0 b (by omega)] at h
   simp only [Option.map_some, Option.some.injEq] at h
   refine hst.alive b hb ?_
   split at h
   ·exact ⟨blk, by rw [hget b (by omega), h]⟩
   ·obtain ⟨blk0, h0, _⟩ := Option.map_eq_some_iff.1 h
    exact ⟨blk0, by rw [hget b (by omega), h0]⟩
 ·intro hp0 I0 μ0 w0 e a w Im μ C
  subst e
  have hlow : ∀ j, j < hp0.length → ids[j]? = some j := by
   intro j hj
   exact hlow0 j hj
  have hhigh : ∀ j b, hp0.length ≤ j → ids[j]? = some b → hp0.length ≤ b := by
   intro j b hj hb
   rcases Nat.lt_or_ge b hp0.length with h | h
   ·have h1 := pos_of hnd' (hlow b h)
    rw [pos_of hnd' hb] at h1
    cases h1; omega
   ·exact h
  let μr : Mu := ⟨fun j => match ids[j]? with
   | some b => μ b
   | none => none, fun j => match ids[j]? with
   | some b => μ.ft b
   | none => []⟩
  have hft : ∀ j b, ids[j]? = some b → μr.ft j = μ.ft b := by intro j b h; simp [μr, h]
  have hown : ∀ j b g, ids[j]? = some b → μr.own j g → μ.own b g := by
   intro j b g h hg
   rcases hg with hg | hg
   ·left; simpa [μr, h] using hg
   ·rw [hft j b h] at hg; exact .inr hg
  have hμr : ∀ j b, ids[j]? = some b → μr j = μ b := by intro j b h; simp [μr, h]
  have hρ : ∀ b b' g, pos ids b = some b' → μ b = some g → μr b' = some g := by
   intro b b' g hb hg; rw [hμr b' b (pos_spec hb)]; exact hg
  let Ir : Nat → Prop := fun k => Im k ∨ ∃ b, b ∉ ids ∧ hp0.length ≤ b ∧ Alive s.hp b ∧ μ.own b k
  have hsub : Sub Im Ir := fun k h => .inl h
  have hnir : ∀ b blk g, b ∈ ids → s.hp[b]? = some (some blk) → μ.own b g → ¬ Ir g := by
   rintro b blk g hbi hb hg (h | ⟨c, hci, _, ⟨blk', hc⟩, hcg⟩)
   ·exact (C.holds b blk hb).nimm hg h
   ·exact C.inj b c _ _ g (by rintro rfl; exact hci hbi) hb hc hg hcg
  have hE : Evo Im w w (fun _ => False) := .refl _ _
  have frzIn_sound : ∀ (n : Nat) (c : V) (u : Value), V.R P Im μ w c u → V.R P Ir noMu w (frzIn P s.hp ids hp0.length n c) u := by
   intro n
   induction n with
   | zero => intro c u _; simp [frzIn, V.R]
   | succ n ih =>
    have ihL : ∀ (cs : List V) (us : List Value), V.RL P Im μ w cs us → V.RL P Ir noMu w (cs.map (frzIn P s.hp ids hp0.length n)) us := by
     intro cs
     induction cs with
     | nil => intro us h; simpa [V.RL] using h
     | cons c cs ihc =>
      intro us h
      simp only [V.RL] at h
      obtain ⟨u, us', rfl, h1, h2⟩ := h
      simp only [List.map_cons, V.RL]
      exact ⟨u, us', rfl, ih c u h1, ihc us' h2⟩
    have ihO : ∀ (c : V) (F : List Nat) (u : Value), (∀ k ∈ F, Ir k) → OX P Im μ w F c u → V.R P Ir noMu w (frzIn P s.hp ids hp0.length n c) u := by
     intro c F u hF h
     cases hc : c.isO with
     | false => exact ih c u (h.plain hc).2
     | true =>
      unfold OX at h
      rw [hc] at h
      cases n with
      | zero => simp [frzIn, V.R]
      | succ n =>
       have := fz_sound hsub c F u hF h
       cases c <;> first | (simp [V.isO] at hc; done) | (rw [fz_osl] at this; exact this)
    have ihOL : ∀ (cs : List V) (F : List Nat) (us : List Value), (∀ k ∈ F, Ir k) → OXL P Im μ w F cs us → V.RL P Ir noMu w (cs.map (frzIn P s.hp ids hp0.length n)) us := by
     intro cs
     induction cs with
     | nil => intro F us _ h; obtain ⟨_, rfl⟩ := h; simp [V.RL]
     | cons c cs ihc =>
      intro F us hF h
      obtain ⟨u, us', F1, F2, rfl, rfl, h1, h2⟩ := h
      simp only [List.map_cons, V.RL]
      exact ⟨u, us', rfl, ihO c F1 u (fun k hk => hF k (by simp [hk])) h1, ihc F2 us' (fun k hk => hF k (by simp [hk])) h2⟩
    intro c u h
    unfold frzIn
    split
    ·rename_i b off k full
     split
     ·simp [V.R]
     ·rename_i hc
      simp only [Bool.or_eq_true, decide_eq_true_eq, not_or] at hc
      split
      ·rename_i blk hb
       split
       ·rename_i hs0
        split
        ·rename_i hoff
         have hoff' : off = 0 := by simpa using hoff
         subst hoff'
         simp only [V.R] at h ⊢
         rcases h with ⟨g, cap, e, N, i, hg, rfl, h1, h2, h3, hsh, _⟩ | ⟨_, rfl, a', rfl, ha'⟩
         ·obtain ⟨cs, fr, _, hw, _, ⟨h4, h5⟩, _⟩ := (C.holds b blk hb).realS hg hsh
          have hF : ∀ k ∈ μ.ft b, Ir k := fun k hk => .inr ⟨b, by simpa using hc.1, by omega, ⟨blk, hb⟩, .inr hk⟩
          have h6 := frzSeg_sound (f := frzIn P s.hp ids hp0.length n) ihO hsub hF h5
          have h7 := h6.length
          refine ⟨some ⟨g, 0, none⟩, cap, rfl, h1, by simp, .inr ⟨_, _, rfl⟩, .inr <| .inr ⟨g, 0, rfl, .inr ⟨b, by simpa using hc.1, by omega, ⟨blk, hb⟩, .inl hg⟩, cs, _, fr, hw, ?_⟩⟩
          rw [List.drop_zero]
          rw [List.length_take, Nat.min_eq_left (by simpa using h4)] at h7
          rw [← h7]
          exact h6
         ·exact ⟨a', 0, rfl, Nat.le_refl _, by simp, ha'.imp (fun h => ⟨h, rfl⟩) id, .inr (.inl rfl)⟩
        ·simp [V.R]
       ·rename_i hs0
        have hfl := flat_noSeal hs0
        split
        ·rename_i sz hsz
         split
         ·rename_i hl
          simp only [V.R] at h ⊢
          rcases h with ⟨g, cap, e, N, i, hg, rfl, h1, h2, h3, hsh, _⟩ | ⟨_, rfl, a', rfl, ha'⟩
          ·obtain ⟨cs, fr, _, hw, _, ⟨h4, h5⟩, _⟩ := (C.holds b blk hb).realS hg hsh
           have hF : ∀ k ∈ μ.ft b, Ir k := fun k hk => .inr ⟨b, by simpa using hc.1, by omega, ⟨blk, hb⟩, .inr hk⟩
           have h5 := h5.toXL
           rw [hfl] at h4 h5
           refine ⟨some ⟨g, off, none⟩, cap, rfl, h1, by simp, .inr ⟨_, _, rfl⟩, .inr <| .inr ⟨g, off, rfl, .inr ⟨b, by simpa using hc.1, by omega, ⟨blk, hb⟩, .inl hg⟩, cs, _, fr, hw, ?_⟩⟩
           obtain ⟨F1, F2, hFe, _, h6⟩ := h5.split off
           obtain ⟨F3, F4, hFe2, h6, _⟩ := h6.split (k * sz)
           rw [List.length_map, hl]
           have e1 : (cs.toList.drop off).take (k * sz) = ((cs.toList.take blk.1.length).drop off).take (k * sz) := by
            simp only [List.length_take, List.length_drop] at hl
            rw [List.drop_take, List.take_take, Nat.min_eq_left (by omega)]
           rw [e1]
           exact ihOL _ F3 _ (fun k hk => hF k (by rw [hFe, hFe2]; simp [hk])) h6
          ·exact ⟨a', 0, rfl, Nat.le_refl _, by simp, ha'.imp (fun h => ⟨h, rfl⟩) id, .inr (.inl rfl)⟩
         ·simp [V.R]
        ·simp [V.R]
      ·simp [V.R]
    ·simp [V.R]
    ·simp only [V.R] at h ⊢; obtain ⟨vs, h1, h2⟩ := h; exact ⟨vs, h1, ihL _ _ h2⟩
    ·simp only [V.R] at h ⊢; obtain ⟨vs, h1, h2⟩ := h; exact ⟨vs, h1, ihL _ _ h2⟩
    ·simp only [V.R] at h ⊢; obtain ⟨vs, h1, h2⟩ := h; exact ⟨vs, h1, ihL _ _ h2⟩
    ·simp only [V.R] at h ⊢; obtain ⟨vs, h1, h2⟩ := h; exact ⟨vs, h1, ihL _ _ h2⟩
    ·simp only [V.R] at h ⊢
     obtain ⟨a, cap, h1, h2, _, h4, h5⟩ := h
     refine ⟨a, cap, h1, h2, by simp, h4, ?_⟩
     rcases h5 with h5 | h5 | ⟨g, off, k1, k2, k3⟩
     ·exact .inl h5
     ·exact .inr (.inl h5)
     ·obtain ⟨cells, e, fr, k4, k5⟩ := k3
      exact .inr <| .inr ⟨g, off, k1, hsub _ k2, cells, e, fr, k4, k5.keep hE hsub (MuLe.refl _)⟩
    ·simp [V.R] at h
    ·simp [V.R]
    ·rename_i h1 h2 h3 h4 h5 h7 h6 h8 h9
     cases c
     case osl => exact absurd rfl (h8 _ _ _ _)
     case eptr => exact absurd rfl (h9 _ _ _)
     case ptr => exact absurd rfl (h2 _ _)
     case sl => exact absurd rfl (h1 _ _ _ _)
     case agg => exact absurd rfl (h3 _)
     case tup => exact absurd rfl (h4 _)
     case fn => exact absurd rfl (h5 _ _)
     case box => exact absurd rfl (h7 _ _)
     case dsl => exact absurd rfl (h6 _ _ _)
     case dptr => exact (h.keep hE hsub (MuLe.refl _) : V.R P Ir μ w _ u) |> (fun h => by simpa only [V.R] using h)
     all_goals (first | (simp only [V.R] at h; done) | (simp only [V.R]; done) | (simp only [V.R] at h ⊢; exact h))
  have frz_sound : ∀ (n : Nat) (c : V) (u : Value), V.R P Im μ w c u → V.R P Ir μr w (frz P s.hp ids hp0.length n c) u := by
   intro n
   induction n with
   | zero => intro c u _; simp [frz, V.R]
   | succ n ih =>
    have ihL : ∀ (cs : List V) (us : List Value), V.RL P Im μ w cs us → V.RL P Ir μr w (cs.map (frz P s.hp ids hp0.length n)) us := by
     intro cs
     induction cs with
     | nil => intro us h; simpa [V.RL] using h
     | cons c cs ihc =>
      intro us h
      simp only [V.RL] at h
      obtain ⟨u, us', rfl, h1, h2⟩ := h
      simp only [List.map_cons, V.RL]
      exact ⟨u, us', rfl, ih c u h1, ihc us' h2⟩
    intro c u h
    unfold frz
    split
    ·rename_i b off k full
     split
     ·rename_i j hj
      simp only [V.R] at h ⊢
      rcases h with ⟨g, cap, e, N, i, hg, r⟩ | h
      ·exact .inl ⟨g, cap, e, N, i, hρ b j g hj hg, r⟩
      ·exact .inr h
     ·exact R_up (frzIn_sound (n + 1) _ u h)
    ·rename_i b off
     split
     ·rename_i j hj
      simp only [V.R] at h ⊢
      obtain ⟨g, hg, r⟩ := h
      exact ⟨g, hρ b j g hj hg, r⟩
     ·simp [V.R]
    ·rename_i b base rel
     split
     ·rename_i j hj
      simp only [V.R] at h ⊢
      obtain ⟨g, hg, r⟩ := h
      exact ⟨g, hρ b j g hj hg, r⟩
     ·simp [V.R]
    ·simp only [V.R] at h ⊢; obtain ⟨vs, h1, h2⟩ := h; exact ⟨vs, h1, ihL _ _ h2⟩
    ·simp only [V.R] at h ⊢; obtain ⟨vs, h1, h2⟩ := h; exact ⟨vs, h1, ihL _ _ h2⟩
    ·simp only [V.R] at h ⊢; obtain ⟨vs, h1, h2⟩ := h; exact ⟨vs, h1, ihL _ _ h2⟩
    ·simp only [V.R] at h ⊢; obtain ⟨vs, h1, h2⟩ := h; exact ⟨vs, h1, ihL _ _ h2⟩
    ·rename_i h1 h2 h7 h3 h4 h5 h6
     cases c
     case eptr => exact absurd rfl (h7 _ _ _)
     case ptr => exact absurd rfl (h2 _ _)
     case sl => exact absurd rfl (h1 _ _ _ _)
     case agg => exact absurd rfl (h3 _)
     case tup => exact absurd rfl (h4 _)
     case fn => exact absurd rfl (h5 _ _)
     case box => exact absurd rfl (h6 _ _)
     case dsl => exact (h.keep hE hsub (MuLe.refl _) : V.R P Ir μ w _ u) |> (fun h => by simpa only [V.R] using h)
     case dptr => exact (h.keep hE hsub (MuLe.refl _) : V.R P Ir μ w _ u) |> (fun h => by simpa only [V.R] using h)
     all_goals (first | (simp only [V.R] at h; done) | (simp only [V.R]; done) | (simp only [V.R] at h ⊢; exact h))
  have hle : MuLe μ0 μr := by
   intro b g hg
   rw [hμr b b (hlow b (C.ent.dom b g hg))]
   exact C.le b g hg
  have hwr : ∀ b, b ∈ ((s.wr.filter fun b => decide (b < hp0.length)).eraseDups) ↔ b ∈ s.wr ∧ b < hp0.length := by intro b; simp
  have hat : ∀ (j : Nat) (blk : Blk), (normSt P hp0.length keep ids s).hp[j]? = some (some blk) → ∃ b, ids[j]? = some b ∧ ((b < hp0.length ∧ b ∉ s.wr ∧ s.hp[b]? = some (some blk)) ∨ ∃ blk0 : Blk, s.hp[b]? = some (some blk0) ∧ blk = (blk0.1.map (frz P s.hp ids hp0.length 100), blk0.2)) := by
   intro j blk h
   simp only [normSt] at h
   rw [List.getElem?_map] at h
   obtain ⟨b, hb, h⟩ := Option.map_eq_some_iff.1 h
   refine ⟨b, hb, ?_⟩
   have hget : ∀ x : Blk, s.hp.getD b none = some x → s.hp[b]? = some (some x) := by
    intro x hx
    rw [List.getD_eq_getElem?_getD] at hx
    cases hq : s.hp[b]? with
    | none => rw [hq] at hx; cases hx
    | some y => rw [hq] at hx; simp at hx; rw [hx]
   split at h
   ·rename_i hc
    simp only [Bool.and_eq_true, decide_eq_true_eq, Bool.not_eq_true'] at hc
    exact .inl ⟨hc.1, by simpa using hc.2, hget _ h⟩
   ·obtain ⟨blk0, h0, rfl⟩ := Option.map_eq_some_iff.1 h
    exact .inr ⟨blk0, hget _ h0, rfl⟩
  have hat2 : ∀ (j : Nat) (blk : Blk), (normSt P hp0.length keep ids s).hp[j]? = some (some blk) → ∃ (b : Nat) (blk0 : Blk), ids[j]? = some b ∧ s.hp[b]? = some (some blk0) := by
   intro j blk h
   obtain ⟨b, hb, h⟩ := hat j blk h
   rcases h with ⟨_, _, h⟩ | ⟨blk0, h, _⟩
   ·exact ⟨b, _, hb, h⟩
   ·exact ⟨b, _, hb, h⟩
  have hget : ∀ b, b < hp0.length → s.hp[b]? = some (s.hp.getD b none) := by
   intro b hb
   have : b < s.hp.length := by have := C.len; omega
   rw [List.getD_eq_getElem?_getD, List.getElem?_eq_getElem this]; rfl
  refine ⟨Ir, μr, ?_, fun v u h => frz_sound 100 v u h⟩
  have hfrzO : ∀ c : V, c.isO = true → frz P s.hp ids hp0.length 100 c = c := by
   intro c hc
   cases c <;> first | (simp [V.isO] at hc; done) | rfl
  have hmuNone : ∀ j b, ids[j]? = some b → μ b = none → μr j = none := fun j b h h0 => by rw [hμr j b h]; exact h0
  refine ⟨fun t => ?_, ?_, C.defers, fun j blk h => ?_, fun j k b1 b2 g hne h1 h2 g1 g2 => ?_, fun j g hg => ?_, fun j g hg hj => ?_, fun j hj hn => ?_, ?_, hle, fun j hj blk h g hg => ?_, ?_, fun b hb hn => ?_, fun b hb h => ?_, fun b hb hb0 => ?_, fun k h => .inl (C.isub k h), fun k hk => ?_, C.ilt.step (.refl w (fun _ => False)) (fun _ h => .inl h) fun k hk => ?_, C.ent⟩
  ·show V.R P Ir μr w ((normTm P s.hp ids hp0.length s.tm keep ⟨s.tm.n, Tr.mk0 11⟩).get t) _
   have h0 : (⟨s.tm.n, Tr.mk0 11⟩ : Tm).get t = .junk := by
    unfold Tm.get
    cases Nat.blt t s.tm.n
    ·rfl
    ·exact Tr.mk0_get _ _
   rcases normTm_get (P := P) s.hp ids hp0.length s.tm t keep ⟨s.tm.n, Tr.mk0 11⟩ with h | h | h
   ·rw [h, h0]; simp [V.R]
   ·rw [h]; simp [V.R]
   ·rw [h]; exact frz_sound 100 _ _ (C.tm t)
  ·show a.tmps.size = (normTm P s.hp ids hp0.length s.tm keep ⟨s.tm.n, Tr.mk0 11⟩).n
   rw [normTm_n]; exact C.size
  ·obtain ⟨b, hb, h⟩ := hat j blk h
   rcases h with ⟨hbl, hnw, h⟩ | ⟨blk0, h0, rfl⟩
   ·have hj : j = b := by
     have h1 := pos_of hnd' (hlow b hbl)
     rw [pos_of hnd' hb] at h1
     cases h1; rfl
    subst hj
    have h0 : hp0[j]? = some (some blk) := by rw [← C.frame j hbl hnw]; exact h
    have hfj : μ.ft j = μ0.ft j := C.ftd j hbl hnw
    refine (C.ent.holds j blk h0).keep C.evo (fun k h => .inl (C.isub k h)) hle (fun hn => hmuNone j j hb ?_) ((hft j j hb).trans hfj) (fun g hg hx => ?_) (fun g hg => hnir j blk g (List.mem_of_getElem? hb) h ?_)
    ·cases hq : μ j with
     | none => rfl
     | some g => rw [C.dom0 j g hq hbl] at hn; cases hn
    ·obtain ⟨c, hcw, hcl, hcg⟩ := hx
     obtain ⟨blk', hca⟩ := C.wal c hcw hcl
     exact C.ent.inj j c _ _ g (by rintro rfl; exact hnw hcw) h0 hca hg hcg
    ·rcases hg with hg | hg
     ·exact .inl (C.le j g hg)
     ·rw [← hfj] at hg; exact .inr hg
   ·have h6 : ∀ {F : List Nat} {vs : List Value}, CR P Im μ w F blk0.1 vs → CR P Ir μr w F (blk0.1.map (frz P s.hp ids hp0.length 100)) vs := fun h => mapSeg_sound (f := frz P s.hp ids hp0.length 100) (fun c u h => frz_sound 100 c u h) hfrzO (fun o c => by cases o <;> rfl) hsub h
    have h7 : (flat (blk0.1.map (frz P s.hp ids hp0.length 100))).length = (flat blk0.1).length := by
     exact flat_map_length (fun o c => by cases o <;> rfl) (fun x hx => frz_noS hx) blk0.1
    rcases C.holds b blk0 h0 with ⟨g, cs, fr, hg, hni, hw, h3, ⟨h4, h5⟩, h8, h9⟩ | ⟨k1, k3⟩ | ⟨g, es, ck, c, hg, hni, hw, rfl, h4, h5⟩
    ·refine .inl ⟨g, cs, fr, by rw [hμr j b hb]; exact hg, hnir b blk0 g (List.mem_of_getElem? hb) h0 (.inl hg), hw, h3, ⟨?_, ?_⟩, by rw [hft j b hb]; exact h8, fun k hk => ?_⟩
     ·show (flat (blk0.1.map (frz P s.hp ids hp0.length 100))).length ≤ _
      rw [h7]; exact h4
     ·show CR P Ir μr w (μr.ft j) (blk0.1.map (frz P s.hp ids hp0.length 100)) (List.take (flat (blk0.1.map (frz P s.hp ids hp0.length 100))).length _)
      rw [h7, hft j b hb]; exact h6 h5
     ·rw [hft j b hb] at hk
      exact ⟨hnir b blk0 k (List.mem_of_getElem? hb) h0 (.inr hk), (h9 k hk).2⟩
    ·exact .inr (.inl ⟨hmuNone j b hb k1, by rw [hft j b hb]; exact k3⟩)
    ·exact .inr (.inr ⟨g, es, ck, c, by rw [hμr j b hb]; exact hg, hnir b _ g (List.mem_of_getElem? hb) h0 (.inl hg), hw, rfl, h4.keep (.refl w (fun _ => False)) hsub, by rw [hft j b hb]; exact h5⟩)
  ·obtain ⟨b, blk0, hb, h0⟩ := hat2 j b1 h1
   obtain ⟨c, blk1, hc, h1⟩ := hat2 k b2 h2
   refine C.inj b c _ _ g (fun e => hne ?_) h0 h1 (hown j b g hb g1) (hown k c g hc g2)
   subst e
   have h3 := pos_of hnd' hb
   rw [pos_of hnd' hc] at h3
   cases h3; rfl
  ·cases hq : ids[j]? with
   | none => simp [μr, hq] at hg
   | some b => simpa [normSt] using (List.getElem?_eq_some_iff.1 hq).1
  ·rw [hμr j j (hlow j hj)] at hg
   exact C.dom0 j g hg hj
  ·rw [hft j j (hlow j hj)]
   exact C.ftd j hj fun h => hn ((hwr j).2 ⟨h, hj⟩)
  ·refine C.evo.mono fun k hk => ?_
   obtain ⟨b, hb, hbl, hg⟩ := hk
   exact ⟨b, (hwr b).2 ⟨hb, hbl⟩, hbl, hg⟩
  ·obtain ⟨b, blk0, hb, h0⟩ := hat2 j blk h
   have hj' : hp0.length ≤ b ∨ b ∈ s.wr := by
    rcases hj with hj | hj
    ·exact .inl (hhigh j b hj hb)
    ·have h3 := (hwr j).1 hj
     rw [hlow j h3.2] at hb; cases hb
     exact .inr h3.1
   rcases C.prov b hj' blk0 h0 g (hown j b g hb hg) with h | ⟨c, hcw, hcl, hcg, hca⟩
   ·exact .inl h
   ·exact .inr ⟨c, (hwr c).2 ⟨hcw, hcl⟩, hcl, hcg, hca⟩
  ·simp only [normSt, List.length_map]; exact hlen
  ·have hnw : b ∉ s.wr := fun h => hn ((hwr b).2 ⟨h, hb⟩)
   simp only [normSt]
   rw [List.getElem?_map, hlow b hb]
   simp only [Option.map_some]
   rw [if_pos (by simp [hnw, hb]), ← hget b hb]
   exact C.frame b hb hnw
  ·obtain ⟨blk, h⟩ := h
   obtain ⟨c, blk0, hc, h0⟩ := hat2 b blk h
   rw [hlow b hb] at hc; cases hc
   exact C.alive b hb ⟨blk0, h0⟩
  ·exact C.wal b ((hwr b).1 hb).1 hb0
  ·rcases hk with h | ⟨b, hbi, hbl, ⟨blk, hb⟩, hg⟩
   ·rcases C.igrow k h with h | h | ⟨c, hcw, hcl, hcg, hca⟩
    ·exact .inl h
    ·exact .inr (.inl h)
    ·exact .inr (.inr ⟨c, (hwr c).2 ⟨hcw, hcl⟩, hcl, hcg, hca⟩)
   ·rcases C.prov b (.inl hbl) blk hb k hg with h | ⟨c, hcw, hcl, hcg, hca⟩
    ·exact .inr (.inl h)
    ·exact .inr (.inr ⟨c, (hwr c).2 ⟨hcw, hcl⟩, hcl, hcg, hca⟩)
  ·rcases hk with h | ⟨b, _, _, ⟨blk, hb⟩, hg⟩
   ·exact C.ilt k h
   ·exact (C.holds b blk hb).lt hg
theorem norm_weak {m : Nat} {keep ids : List Nat} {s : St} (hp : permOK m ids = true) : Weak P m s (normSt P m keep ids s) :=
 ⟨(norm_weakV hp).st, fun e _ _ _ _ C => by
   obtain ⟨I', μ', h, _⟩ := (norm_weakV (keep := keep) hp).run e C
   exact ⟨I', μ', h⟩⟩
theorem Weak.trans {m : Nat} {a b c : St} (h : Weak P m a b) (k : Weak P m b c) : Weak P m a c :=
 ⟨fun hp0 e hs => k.st hp0 e (h.st hp0 e hs), fun e _ _ _ _ C => by
  obtain ⟨_, _, C'⟩ := h.run e C
  exact k.run e C'⟩
structure WeakS (P : Program) (m : Nat) (s s' : St) : Prop where
 st : ∀ hp0 : Hp, hp0.length = m → SR hp0 s → SR hp0 s'
 run : ∀ {hp0 : Hp} {I0 : Nat → Prop} {μ0 : Mu} {w0 : World}, hp0.length = m → ∀ {a : Act} {w : World} {Im : Nat → Prop} {μ : Mu}, CI P hp0 I0 μ0 w0 s a w Im μ → CI P hp0 I0 μ0 w0 s' a w Im μ
theorem WeakS.refl (m : Nat) (s : St) : WeakS P m s s := ⟨fun _ _ h => h, fun _ _ _ _ _ C => C⟩
theorem WeakS.trans {m : Nat} {a b c : St} (h : WeakS P m a b) (k : WeakS P m b c) : WeakS P m a c := ⟨fun hp0 e hs => k.st hp0 e (h.st hp0 e hs), fun e _ _ _ _ C => k.run e (h.run e C)⟩
theorem WeakS.weak {m : Nat} {a b : St} (h : WeakS P m a b) : Weak P m a b := ⟨h.st, fun e _ _ _ _ C => ⟨_, _, h.run e C⟩⟩
theorem flatC_length : ∀ l : List V, (flatC l).length = (flat l).length
 | [] => rfl
 | x :: t => by
  rcases seal_or x with ⟨o, c, rfl⟩ | hx
  ·rw [flatC_seal, flat_sealO, List.length_append, List.length_append, flatC_length t]
  ·rw [flatC_cons hx, flat_cons hx, List.length_cons, List.length_cons, flatC_length t]
theorem flat_mkS (o : Bool) (c : List V) : flat [mkS o c] = c := by rw [flat_sealO]; simp [flat]
theorem Holds.canS {I : Nat → Prop} {μ : Mu} {w : World} {b : Nat} {blk : Blk} (h : Holds P I μ w b blk) (hr : V.refsL blk.1 = []) : Holds P I μ w b ([mkS (hasO blk.1) (flatC blk.1)], blk.2) := by
 have hl := flatC_length blk.1
 rcases h with ⟨g, cs, fr, h1, h2, h3, h4, ⟨h5, h6⟩, h7, h8⟩ | ⟨h1, h3⟩ | ⟨g, es, ck, c, h1, h2, h3, rfl, h4, h5⟩
 ·refine .inl ⟨g, cs, fr, h1, h2, h3, h4, ⟨?_, ?_⟩, h7, h8⟩
  ·show (flat [_]).length ≤ _
   rw [flat_mkS, hl]; exact h5
  ·show CR P I μ w _ [_] (List.take (flat [_]).length _)
   rw [flat_mkS, hl]
   exact CR.sealedO (h6.canL hr)
 ·exact .inr (.inl ⟨h1, h3⟩)
 ·exact .inr (.inr ⟨g, es, ck, c, h1, h2, h3, rfl, h4, h5⟩)
theorem seal_same {m b : Nat} {s : St} : WeakS P m s (sealSt m b s) := by
 generalize h : sealSt m b s = s'
 unfold sealSt at h
 split at h
 case h_2 => subst h; exact .refl m s
 case h_1 blk hb =>
 split at h
 case h_2 => subst h; exact .refl m s
 case h_1 hm h2 =>
 subst h
 have hm' : m ≤ b := Nat.le_of_ble_eq_true (by simp only [Bool.and_eq_true] at hm; exact hm.1)
 have hbl : b < s.hp.length := at_lt hb
 have hat : ∀ (k : Nat) (blk' : Blk), (s.hp.set b (some ([mkS (hasO blk.1) (flatC blk.1)], blk.2)))[k]? = some (some blk') → (k = b ∧ blk' = ([mkS (hasO blk.1) (flatC blk.1)], blk.2)) ∨ (k ≠ b ∧ s.hp[k]? = some (some blk')) := by
  intro k blk' h
  rw [List.getElem?_set] at h
  split at h
  ·rename_i e
   cases h; exact .inl ⟨e.symm, rfl⟩
  ·rename_i e; exact .inr ⟨fun x => e x.symm, h⟩
 have hat2 : ∀ (k : Nat) (blk' : Blk), (s.hp.set b (some ([mkS (hasO blk.1) (flatC blk.1)], blk.2)))[k]? = some (some blk') → ∃ blk0, s.hp[k]? = some (some blk0) := by
  intro k blk' h
  rcases hat k blk' h with ⟨rfl, _⟩ | ⟨_, h⟩
  ·exact ⟨_, hb⟩
  ·exact ⟨_, h⟩
 have hne : ∀ k, k < m → (s.hp.set b (some ([mkS (hasO blk.1) (flatC blk.1)], blk.2)))[k]? = s.hp[k]? := fun k hk => by rw [List.getElem?_set, if_neg (by omega)]
 constructor
 ·intro hp0 e hs
  subst e
  refine ⟨by simpa using hs.len, fun k hk hn => by show (s.hp.set b _)[k]? = _; rw [hne k hk]; exact hs.frame k hk hn, fun k hk ⟨blk', hal⟩ => hs.alive k hk (hat2 k blk' hal)⟩
 ·intro hp0 I0 μ0 w0 e a w Im μ C
  subst e
  refine ⟨C.tm, C.size, C.defers, fun k blk' h => ?_, fun k j b1 b2 g hkj h1 h2 g1 g2 => ?_, fun k g hg => by simpa using C.dom k g hg, C.dom0, C.ftd, C.evo, C.le, fun k hk blk' h g hg => ?_, by simpa using C.len, fun k hk hn => by show (s.hp.set b _)[k]? = _; rw [hne k hk]; exact C.frame k hk hn, fun k hk ⟨blk', hal⟩ => C.alive k hk (hat2 k blk' hal), C.wal, C.isub, C.igrow, C.ilt, C.ent⟩
  ·rcases hat k blk' h with ⟨rfl, rfl⟩ | ⟨_, h⟩
   ·exact (C.holds k blk hb).canS h2
   ·exact C.holds k blk' h
  ·obtain ⟨_, k1⟩ := hat2 k b1 h1
   obtain ⟨_, k2⟩ := hat2 j b2 h2
   exact C.inj k j _ _ g hkj k1 k2 g1 g2
  ·obtain ⟨_, k1⟩ := hat2 k blk' h
   exact C.prov k hk _ k1 g hg
theorem sealAll_same {m : Nat} : ∀ (bs : List Nat) (s : St), WeakS P m s (sealAll m bs s)
 | [], s => .refl m s
 | b :: bs, s => seal_same.trans (sealAll_same bs _)
theorem sealAll_weak {m : Nat} (bs : List Nat) (s : St) : Weak P m s (sealAll m bs s) := (sealAll_same bs s).weak
mutual
def V.ptrs : V → List Nat
 | .ptr b _ => [b]
 | .agg cs => V.ptrsL cs
 | .tup cs => V.ptrsL cs
 | .fn _ cs => V.refsL cs
 | .box _ cs => V.refsL cs
 | _ => []
def V.ptrsL : List V → List Nat
 | [] => []
 | c :: cs => V.ptrs c ++ V.ptrsL cs
end
structure Kp where
 keep : List Nat
 perm : Option (List Nat × List Nat) := none
 wr : List Nat := []
 pk : Option (TypeId → Nat → Option TypeId) := none
 rooms : List Nat := []
 nils : List (Nat × TypeId) := []
def Kp.ids (k : Kp) (m : Nat) (s : St) : List Nat := match k.perm with
 | some p => p.1
 | none => match k.pk with
  | none => reach s.hp 100000 (k.keep.flatMap fun i => (s.tm.get i).refs) (List.range m)
  | some _ => (List.range m ++ (k.keep.flatMap fun i => (s.tm.get i).refs).filter fun b => Nat.ble m b).eraseDups
def Kp.seals (k : Kp) (m : Nat) (s : St) : List Nat := match k.perm with
 | some p => p.2
 | none => (List.range (k.ids m s).length).filter fun j => Nat.ble m j && !((k.keep.flatMap fun i => (s.tm.get i).ptrs) ++ (k.ids m s).flatMap fun b => match s.hp.getD b none with | some blk => V.ptrsL blk.1 | none => []).contains ((k.ids m s).getD j 0)
def wrS (m : Nat) (ws : List Nat) (s : St) : St := match ws with
 | [] => s
 | _ :: _ => match (ws.all fun b => decide (b < m) && (match s.hp[b]? with | some (some _) => true | _ => false)) && s.wr.all fun b => ws.contains b with
  | true => ⟨s.tm, s.hp, ws⟩
  | false => s
theorem wrS_same {m : Nat} {ws : List Nat} {s : St} : WeakS P m s (wrS m ws s) := by
 unfold wrS
 split
 ·exact .refl m s
 split
 case h_2 => exact .refl m s
 rename_i hc
 rw [Bool.and_eq_true, List.all_eq_true, List.all_eq_true] at hc
 obtain ⟨h1, h2⟩ := hc
 have hsub : ∀ b ∈ s.wr, b ∈ _ := fun b hb => by simpa only [List.contains_iff_mem] using h2 b hb
 constructor
 ·intro hp0 e C
  exact ⟨C.len, fun b hb hn => C.frame b hb fun h => hn (hsub b h), C.alive⟩
 ·intro hp0 I0 μ0 w0 e a w Im μ C
  subst e
  refine ⟨C.tm, C.size, C.defers, C.holds, C.inj, C.dom, C.dom0, fun b hb hn => C.ftd b hb fun h => hn (hsub b h), C.evo.mono fun k ⟨b, hb, hg⟩ => ⟨b, hsub b hb, hg⟩, C.le, fun b hb blk hk g hg => ?_, C.len, fun b hb hn => C.frame b hb fun h => hn (hsub b h), C.alive, fun b hb hl => ?_, C.isub, fun k hk => ?_, C.ilt, C.ent⟩
  ·by_cases hb' : hp0.length ≤ b ∨ b ∈ s.wr
   ·rcases C.prov b hb' blk hk g hg with h | ⟨c, k1, k2⟩
    ·exact .inl h
    ·exact .inr ⟨c, hsub c k1, k2⟩
   ·simp only [not_or, Nat.not_le] at hb'
    have hbw := hb.resolve_left (by omega)
    refine .inr ⟨b, hbw, hb'.1, ?_, C.alive b hb'.1 ⟨_, hk⟩⟩
    rcases hg with hg | hg
    ·exact .inl (C.dom0 b g hg hb'.1)
    ·rw [C.ftd b hb'.1 hb'.2] at hg; exact .inr hg
  ·have := h1 b hb
   rw [Bool.and_eq_true] at this
   refine C.alive b hl ?_
   have h3 := this.2
   split at h3
   ·rename_i blk hb; exact ⟨blk, hb⟩
   ·cases h3
  ·rcases C.igrow k hk with h | h | ⟨c, k1, k2⟩
   ·exact .inl h
   ·exact .inr (.inl h)
   ·exact .inr (.inr ⟨c, hsub c k1, k2⟩)
def gc (P : Program) (m : Nat) (ids seals : List Nat) (v : V) (s : St) : Ret := ⟨V.can (frz P s.hp ids m 100 v), (sealAll m seals (normSt P m [] ids s)).hp, (sealAll m seals (normSt P m [] ids s)).wr⟩
theorem sealAll_wr {m : Nat} : ∀ (bs : List Nat) (s : St), (sealAll m bs s).wr = s.wr
 | [], s => rfl
 | b :: bs, s => by
  unfold sealAll
  rw [sealAll_wr bs]
  unfold sealSt
  split
  ·split <;> rfl
  ·rfl
theorem CI.good {hp0 : Hp} {I0 Ir : Nat → Prop} {μ0 μr : Mu} {w0 w : World} {s' : St} {a : Act} (C' : CI P hp0 I0 μ0 w0 s' a w Ir μr) :
  ∃ μ2, MuLe μr μ2 ∧ Good P I0 Ir μ0 μ2 w0 w hp0 s'.hp (List.range hp0.length) s'.wr := by
 let μ2 : Mu := ⟨μr.nm, fun b => if b < s'.hp.length then μr.ft b else μ0.ft b⟩
 have hle : MuLe μr μ2 := fun _ _ h => h
 have hft : ∀ b, b < s'.hp.length → μ2.ft b = μr.ft b := fun b h => by simp [μ2, h]
 have hlt : ∀ b blk, s'.hp[b]? = some (some blk) → b < s'.hp.length := fun b blk h => (List.getElem?_eq_some_iff.1 h).1
 have hown : ∀ b g, b < s'.hp.length → μ2.own b g → μr.own b g := fun b g h hg => by
  rcases hg with hg | hg
  ·exact .inl hg
  ·rw [hft b h] at hg; exact .inr hg
 have hlen : hp0.length ≤ s'.hp.length := C'.len
 refine ⟨μ2, hle, ⟨C'.isub, fun k hk => ?_, C'.evo.mono fun k ⟨b, hb, _, hg⟩ => ⟨b, hb, hg⟩, fun b g h => C'.le b g h, fun b g hg => ?_, fun b hb hn => ?_, fun b _ blk h => ?_, fun b hb blk h g hg => ?_, fun b c b1 b2 g hne _ _ h1 h2 g1 g2 => C'.inj b c b1 b2 g hne h1 h2 (hown b g (hlt b b1 h1) g1) (hown c g (hlt c b2 h2) g2)⟩⟩
 ·rcases C'.igrow k hk with h | h | ⟨c, hcw, hcl, hcg, hca⟩
  ·exact .inl h
  ·exact .inr (.inl ⟨h, C'.ilt k hk⟩)
  ·exact .inr (.inr ⟨c, hcw, hcg, hca⟩)
 ·by_cases hb : b < hp0.length
  ·exact .inl (C'.dom0 b g hg hb)
  ·exact .inr ⟨by omega, C'.dom b g hg⟩
 ·by_cases hl : b < s'.hp.length
  ·rw [hft b hl]
   exact C'.ftd b (by omega) hb
  ·simp [μ2, hl]
 ·exact (C'.holds b blk h).keep (.refl w (fun _ => False)) (.refl _) hle (fun h => h) (hft b (hlt b blk h)) (fun _ _ h => h) (fun g hg => (C'.holds b blk h).nimm hg)
 ·rcases C'.prov b hb blk h g (hown b g (hlt b blk h) hg) with h | ⟨c, hcw, hcl, hcg, hca⟩
  ·exact .inl h
  ·exact .inr ⟨c, hcw, hcg, hca⟩
theorem gc_sound {hp0 : Hp} {I0 Im : Nat → Prop} {μ0 μ : Mu} {w0 w : World} {s : St} {a : Act} {v : V} {val : Value} {ids seals : List Nat} (hp : permOK hp0.length ids = true) (C : CI P hp0 I0 μ0 w0 s a w Im μ) (hv : V.R P Im μ w v val) :
  ∃ μr Ir, V.R P Ir μr w (gc P hp0.length ids seals v s).v val ∧ Good P I0 Ir μ0 μr w0 w hp0 (gc P hp0.length ids seals v s).hp (List.range hp0.length) (gc P hp0.length ids seals v s).wr := by
 obtain ⟨Ir, μr, C1, hV⟩ := (norm_weakV (keep := []) hp).run rfl C
 obtain ⟨μ2, hle, G⟩ := ((sealAll_same (P := P) seals (normSt P hp0.length [] ids s)).run rfl C1).good
 exact ⟨μ2, Ir, (R_can _ _ (hV _ _ hv)).keep (.refl w (fun _ => False)) (.refl _) hle, G⟩
theorem gc_tidy {hp0 : Hp} {s : St} {v : V} {ids seals : List Nat} (hp : permOK hp0.length ids = true) (C : SR hp0 s) : FnTidy hp0 (gc P hp0.length ids seals v s) := by
 have C' := (sealAll_same (P := P) seals (normSt P hp0.length [] ids s)).st hp0 rfl ((norm_weakV (P := P) (keep := []) hp).st hp0 rfl C)
 exact ⟨C'.len, fun b hb hn => C'.frame b hb hn, fun b hb => by simp only [gc, sealAll_wr, normSt, List.mem_eraseDups, List.mem_filter, decide_eq_true_eq] at hb; exact hb.2, C'.alive⟩
end
end Go.Proofs.YtfncaghjfgnnhaaGreatDoor

namespace Go.Proofs.YtfncaghjfgnnhaaGreatDoor
open Go.RowKit
set_option maxRecDepth 100000
structure PrepOK (P : Program) (hp hp1 : Hp) (bs : List Nat) : Prop where
 tidy : Tidy hp hp1 bs bs
 run : ∀ {I : Nat → Prop} {μ : Mu} {w : World} {acc : List Nat}, Pre P I μ w hp acc hp1.length → (∀ b ∈ bs, b ∈ acc) → ∃ μ1, Good P I I μ μ1 w w hp hp1 acc bs
section
variable {P : Program} {hp hp1 hp2 : Hp} {bs bs1 bs2 : List Nat}
theorem Good.back {I I' : Nat → Prop} {μ μ1 : Mu} {w w1 : World} {acc wr : List Nat} (G : Good P I I' μ μ1 w w1 hp hp1 acc wr) (hwr : ∀ b ∈ wr, b < hp.length) (ht : ∀ b, b < hp.length → b ∉ wr → hp1[b]? = hp[b]?) {c : Nat} {blk : Blk} (hc : hp1[c]? = some (some blk)) {g : Nat} (hg : μ1.own c g) :
  w.heap.size ≤ g ∨ ∃ d, (d ∈ wr ∨ d = c) ∧ d < hp.length ∧ μ.own d g ∧ ∃ blk, hp[d]? = some (some blk) := by
 by_cases h : hp.length ≤ c ∨ c ∈ wr
 ·rcases G.prov c h blk hc g hg with h | ⟨d, h1, h2, h3⟩
  ·exact .inl h
  ·exact .inr ⟨d, .inl h1, hwr d h1, h2, h3⟩
 ·simp only [not_or, Nat.not_le] at h
  refine .inr ⟨c, .inr rfl, h.1, ?_, blk, by rw [← ht c h.1 h.2]; exact hc⟩
  rcases hg with hg | hg
  ·rcases G.dom c g hg with h' | ⟨h', _⟩
   ·exact .inl h'
   ·omega
  ·rw [G.ftd c h.2 (by omega)] at hg; exact .inr hg
def lows (hp : Hp) (l : List Nat) : List Nat := l.filter fun b => decide (b < hp.length)
theorem mem_lows {b : Nat} {l : List Nat} : b ∈ lows hp l ↔ b ∈ l ∧ b < hp.length := by simp [lows]
theorem Tidy.comp {acc2 wr2 : List Nat} (h : Tidy hp hp1 bs bs) (k : Tidy hp1 hp2 acc2 wr2) : Tidy hp hp2 (lows hp (bs ++ acc2)) (lows hp (bs ++ wr2)) := by
 refine ⟨Nat.le_trans h.len k.len, fun b hb hn => ?_, fun b hb => ?_, fun b hb => (mem_lows.1 hb).2, fun b hb => ?_⟩
 ·have h1 : b ∉ bs := fun h1 => hn (mem_lows.2 ⟨by simp [h1], hb⟩)
  have h2 : b ∉ wr2 := fun h1 => hn (mem_lows.2 ⟨by simp [h1], hb⟩)
  rw [k.frame b (Nat.lt_of_lt_of_le hb h.len) h2, h.frame b hb h1]
 ·obtain ⟨h1, h2⟩ := mem_lows.1 hb
  refine mem_lows.2 ⟨?_, h2⟩
  rcases List.mem_append.1 h1 with h1 | h1
  ·exact List.mem_append.2 (.inl h1)
  ·exact List.mem_append.2 (.inr (k.wracc b h1))
 ·obtain ⟨h1, h2⟩ := mem_lows.1 hb
  by_cases h3 : b ∈ bs
  ·exact h.walive b h3
  ·rcases List.mem_append.1 h1 with h1 | h1
   ·exact absurd h1 h3
   ·obtain ⟨blk, hblk⟩ := k.walive b h1
    exact ⟨blk, by rw [← h.frame b h2 h3]; exact hblk⟩
theorem Good.comp {I I' : Nat → Prop} {μ μ1 μ2 : Mu} {w w2 : World} {acc acc2 accT wr2 : List Nat} {top : Nat} (t1 : Tidy hp hp1 bs bs) (pre : Pre P I μ w hp acc top) (G1 : Good P I I μ μ1 w w hp hp1 acc bs) (t2 : Tidy hp1 hp2 accT wr2) (hw2 : ∀ b ∈ wr2, b ∈ acc2)
  (ha : ∀ b, b < hp.length → b ∈ acc → b ∈ acc2 ∨ ∀ blk, hp1[b]? ≠ some (some blk)) (hn : ∀ b, hp.length ≤ b → b < hp1.length → b ∈ acc2) (hb : ∀ b ∈ bs, b ∈ acc) (hwa : ∀ b ∈ wr2, b < hp.length → b ∈ acc)
  (G2 : Good P I I' μ1 μ2 w w2 hp1 hp2 acc2 wr2) : Good P I I' μ μ2 w w2 hp hp2 acc (lows hp (bs ++ wr2)) := by
 have hh : ∀ b, (b ∈ acc ∨ hp.length ≤ b) → ∀ blk, hp1[b]? = some (some blk) → b ∈ acc2 ∨ hp1.length ≤ b := by
  intro b h blk hblk
  have hl := (List.getElem?_eq_some_iff.1 hblk).1
  rcases Nat.lt_or_ge b hp.length with h1 | h1
  ·rcases h with h | h
   ·rcases ha b h1 h with h2 | h2
    ·exact .inl h2
    ·exact absurd hblk (h2 blk)
   ·omega
  ·exact .inl (hn b h1 hl)
 have back : ∀ c, c ∈ wr2 → ∀ g, μ1.own c g → (∃ blk, hp1[c]? = some (some blk)) → ∃ d ∈ lows hp (bs ++ wr2), μ.own d g ∧ ∃ blk, hp[d]? = some (some blk) := by
  rintro c hc g hg ⟨blk, hblk⟩
  have hlt : g < w.heap.size := by
   have hcc : c ∈ acc ∨ hp.length ≤ c := by
    rcases Nat.lt_or_ge c hp.length with h | h
    ·exact .inl (hwa c hc h)
    ·exact .inr h
   exact (G1.holds c hcc blk hblk).lt hg
  rcases G1.back (fun b hb' => t1.accb b hb') t1.frame hblk hg with h | ⟨d, h1, h2, h3, h4⟩
  ·omega
  ·refine ⟨d, mem_lows.2 ⟨?_, h2⟩, h3, h4⟩
   rcases h1 with h1 | rfl
   ·simp [h1]
   ·simp [hc]
 have dead : ∀ b, b < hp1.length → b ∉ wr2 → ∀ blk, hp2[b]? = some (some blk) → hp1[b]? = some (some blk) := by
  intro b h1 h2 blk h3; rw [← t2.frame b h1 h2]; exact h3
 have hh2 : ∀ b, (b ∈ acc ∨ hp.length ≤ b) → ∀ blk, hp2[b]? = some (some blk) → b ∈ acc2 ∨ hp1.length ≤ b := by
  intro b h blk hblk
  rcases Nat.lt_or_ge b hp1.length with h1 | h1
  ·by_cases h2 : b ∈ wr2
   ·exact .inl (hw2 b h2)
   ·exact hh b h blk (dead b h1 h2 blk hblk)
  ·exact .inr h1
 refine ⟨G2.isub, fun k hk => ?_, ?_, G1.le.trans G2.le, fun b g h => ?_, fun b h1 h2 => ?_, fun b h blk hblk => G2.holds b (hh2 b h blk hblk) blk hblk, fun b h blk hblk g hg => ?_, fun b c b1 b2 g hne h1 h2 h3 h4 => G2.inj b c b1 b2 g hne (hh2 b h1 b1 h3) (hh2 c h2 b2 h4) h3 h4⟩
 ·rcases G2.igrow k hk with h | h | ⟨c, h1, h2, h3⟩
  ·exact .inl h
  ·exact .inr (.inl h)
  ·exact .inr (.inr (back c h1 k h2 h3))
 ·refine G2.evo.mono fun k ⟨c, h1, h2⟩ => ?_
  obtain ⟨d, h3, h4, _⟩ := back c h1 k h2 (t2.walive c h1)
  exact ⟨d, h3, h4⟩
 ·rcases G2.dom b g h with h | ⟨h1, h2⟩
  ·rcases G1.dom b g h with h | ⟨h1, h2⟩
   ·exact .inl h
   ·exact .inr ⟨h1, Nat.lt_of_lt_of_le h2 t2.len⟩
  ·exact .inr ⟨Nat.le_trans t1.len h1, h2⟩
 ·have h3 : b ∉ wr2 := by
   intro h3
   rcases Nat.lt_or_ge b hp.length with h4 | h4
   ·exact h1 (mem_lows.2 ⟨by simp [h3], h4⟩)
   ·exact h2 ⟨h4, Nat.lt_of_lt_of_le (t2.accb b (t2.wracc b h3)) t2.len⟩
  have h4 : b ∉ bs := fun h4 => h1 (mem_lows.2 ⟨by simp [h4], t1.accb b h4⟩)
  rw [G2.ftd b h3 (fun h => h2 ⟨Nat.le_trans t1.len h.1, h.2⟩), G1.ftd b h4 (fun h => h2 ⟨h.1, Nat.lt_of_lt_of_le h.2 t2.len⟩)]
 ·by_cases h1 : hp1.length ≤ b ∨ b ∈ wr2
  ·rcases G2.prov b h1 blk hblk g hg with h | ⟨c, h2, h3, h4⟩
   ·exact .inl h
   ·exact .inr (back c h2 g h3 h4)
  ·simp only [not_or, Nat.not_le] at h1
   have hblk1 := dead b h1.1 h1.2 blk hblk
   have hg1 : μ1.own b g := by
    rcases hg with hg | hg
    ·rcases G2.dom b g hg with h | ⟨h, _⟩
     ·exact .inl h
     ·omega
    ·rw [G2.ftd b h1.2 (by omega)] at hg; exact .inr hg
   have hb' : hp.length ≤ b ∨ b ∈ bs := by
    rcases h with h | h
    ·exact .inl h
    ·rcases List.mem_append.1 (mem_lows.1 h).1 with h | h
     ·exact .inr h
     ·exact absurd h h1.2
   rcases G1.prov b hb' blk hblk1 g hg1 with h | ⟨c, h2, h3, h4⟩
   ·exact .inl h
   ·exact .inr ⟨c, mem_lows.2 ⟨by simp [h2], t1.accb c h2⟩, h3, h4⟩
theorem Pre.after {I : Nat → Prop} {μ μ1 : Mu} {w : World} {acc acc2 : List Nat} {top : Nat} (pre : Pre P I μ w hp acc top) (t1 : Tidy hp hp1 bs bs) (G : Good P I I μ μ1 w w hp hp1 acc bs) (ha : ∀ b ∈ acc2, b < hp.length → b ∈ acc) : Pre P I μ1 w hp1 acc2 top := by
 have hh : ∀ b ∈ acc2, b ∈ acc ∨ hp.length ≤ b := by
  intro b hb
  rcases Nat.lt_or_ge b hp.length with h | h
  ·exact .inl (ha b hb h)
  ·exact .inr h
 refine ⟨pre.ilt, fun b hb blk hblk => G.holds b (hh b hb) blk hblk, fun b hb c hc b1 b2 g hne h1 h2 g1 g2 => G.inj b c b1 b2 g hne (hh b hb) (hh c hc) h1 h2 g1 g2, fun b h1 h2 => ?_⟩
 cases h : μ1 b with
 | none => rfl
 | some g =>
  rcases G.dom b g h with h | ⟨_, h3⟩
  ·rw [pre.fresh b (Nat.le_trans t1.len h1) h2] at h; cases h
  ·omega
theorem Good.frame {I I' : Nat → Prop} {μ μ' : Mu} {w w' : World} {acc acc' accT wr : List Nat} {top : Nat} (pre : Pre P I μ w hp acc' top) (hsub : ∀ b ∈ acc, b ∈ acc') (t : Tidy hp hp1 accT wr) (hw : ∀ b ∈ wr, b ∈ acc) (G : Good P I I' μ μ' w w' hp hp1 acc wr) : Good P I I' μ μ' w w' hp hp1 acc' wr := by
 have hlt : ∀ b ∈ wr, b < hp.length := fun b hb => by
  obtain ⟨blk, h⟩ := t.walive b hb
  exact (List.getElem?_eq_some_iff.1 h).1
 have old : ∀ b, b ∈ acc' → ¬ (b ∈ acc ∨ hp.length ≤ b) → ∀ blk, hp1[b]? = some (some blk) → hp[b]? = some (some blk) ∧ (∀ g, μ'.own b g → μ.own b g) := by
  intro b hb hn blk hblk
  simp only [not_or, Nat.not_le] at hn
  have hnw : b ∉ wr := fun h => hn.1 (hw b h)
  refine ⟨by rw [← t.frame b hn.2 hnw]; exact hblk, fun g hg => ?_⟩
  rcases hg with hg | hg
  ·rcases G.dom b g hg with h | ⟨h, _⟩
   ·exact .inl h
   ·omega
  ·rw [G.ftd b hnw (by omega)] at hg; exact .inr hg
 have other : ∀ b c blk blk' g, b ∈ acc' → ¬ (b ∈ acc ∨ hp.length ≤ b) → (c ∈ acc ∨ hp.length ≤ c) → hp1[b]? = some (some blk) → hp1[c]? = some (some blk') → μ'.own b g → μ'.own c g → False := by
  intro b c blk blk' g hb hn hc h1 h2 g1 g2
  obtain ⟨h1', hown⟩ := old b hb hn blk h1
  have g1' := hown g g1
  have hbs := (pre.holds b hb blk h1').lt g1'
  simp only [not_or, Nat.not_le] at hn
  rcases G.back hlt t.frame h2 g2 with h | ⟨d, h3, h4, h5, blk'', h6⟩
  ·omega
  ·have hd : d ∈ acc := by
    rcases h3 with h3 | rfl
    ·exact hw d h3
    ·rcases hc with hc | hc
     ·exact hc
     ·omega
   exact pre.inj b hb d (hsub d hd) _ _ g (by rintro rfl; exact hn.1 hd) h1' h6 g1' h5
 refine ⟨G.isub, G.igrow, G.evo, G.le, G.dom, G.ftd, fun b hb blk hblk => ?_, fun b hb => G.prov b hb, fun b c b1 b2 g hne hb hc h1 h2 g1 g2 => ?_⟩
 ·by_cases hn : b ∈ acc ∨ hp.length ≤ b
  ·exact G.holds b hn blk hblk
  ·have hb' : b ∈ acc' := by rcases hb with h | h; exact h; exact absurd (.inr h) hn
   obtain ⟨h1, hown⟩ := old b hb' hn blk hblk
   simp only [not_or, Nat.not_le] at hn
   have hnw : b ∉ wr := fun h => hn.1 (hw b h)
   refine (pre.holds b hb' blk h1).keep G.evo G.isub G.le (fun h0 => ?_) (G.ftd b hnw (by omega)) (fun g hg hx => ?_) (fun g hg hi => ?_)
   ·cases hm : μ' b with
    | none => rfl
    | some g =>
     rcases G.dom b g hm with h | ⟨h, _⟩
     ·rw [h] at h0; cases h0
     ·omega
   ·obtain ⟨c, hcw, hcg⟩ := hx
    obtain ⟨blk', hc'⟩ := t.walive c hcw
    exact pre.inj b hb' c (hsub c (hw c hcw)) _ _ g (by rintro rfl; exact hnw hcw) h1 hc' hg hcg
   ·rcases G.igrow g hi with h | ⟨h, _⟩ | ⟨c, hcw, hcg, blk', hc'⟩
    ·exact (pre.holds b hb' blk h1).nimm hg h
    ·have := (pre.holds b hb' blk h1).lt hg; omega
    ·exact pre.inj b hb' c (hsub c (hw c hcw)) _ _ g (by rintro rfl; exact hnw hcw) h1 hc' hg hcg
 ·by_cases hnb : b ∈ acc ∨ hp.length ≤ b
  ·by_cases hnc : c ∈ acc ∨ hp.length ≤ c
   ·exact G.inj b c b1 b2 g hne hnb hnc h1 h2 g1 g2
   ·have hc' : c ∈ acc' := by rcases hc with h | h; exact h; exact absurd (.inr h) hnc
    exact other c b b2 b1 g hc' hnc hnb h2 h1 g2 g1
  ·have hb' : b ∈ acc' := by rcases hb with h | h; exact h; exact absurd (.inr h) hnb
   by_cases hnc : c ∈ acc ∨ hp.length ≤ c
   ·exact other b c b1 b2 g hb' hnb hnc h1 h2 g1 g2
   ·have hc' : c ∈ acc' := by rcases hc with h | h; exact h; exact absurd (.inr h) hnc
    obtain ⟨h1', o1⟩ := old b hb' hnb b1 h1
    obtain ⟨h2', o2⟩ := old c hc' hnc b2 h2
    exact pre.inj b hb' c hc' _ _ g hne h1' h2' (o1 g g1) (o2 g g2)
theorem Pre.top {I : Nat → Prop} {μ : Mu} {w : World} {acc : List Nat} {top top' : Nat} (pre : Pre P I μ w hp acc top) (h : top' ≤ top) : Pre P I μ w hp acc top' := ⟨pre.ilt, pre.holds, pre.inj, fun b h1 h2 => pre.fresh b h1 (Nat.lt_of_lt_of_le h2 h)⟩
def around (hp hp1 : Hp) (acc : List Nat) : List Nat := acc ++ List.range' hp.length (hp1.length - hp.length)
theorem mem_around {acc : List Nat} {b : Nat} : b ∈ around hp hp1 acc ↔ b ∈ acc ∨ (hp.length ≤ b ∧ b < hp1.length) := by
 unfold around
 rw [List.mem_append, List.mem_range'_1]
 constructor
 ·rintro (h | h)
  ·exact .inl h
  ·exact .inr ⟨h.1, by omega⟩
 ·rintro (h | h)
  ·exact .inl h
  ·exact .inr ⟨h.1, by omega⟩
theorem PrepOK.trans (h : PrepOK P hp hp1 bs1) (k : PrepOK P hp1 hp2 bs2) : PrepOK P hp hp2 (lows hp (bs1 ++ bs2)) := by
 refine ⟨h.tidy.comp k.tidy, fun {I μ w acc} pre hb => ?_⟩
 have hb1 : ∀ b ∈ bs1, b ∈ acc := fun b hb1 => hb b (mem_lows.2 ⟨by simp [hb1], h.tidy.accb b hb1⟩)
 obtain ⟨μ1, G1⟩ := h.run (pre.top k.tidy.len) hb1
 have hb2 : ∀ b ∈ bs2, b ∈ around hp hp1 acc := by
  intro b hb2
  rw [mem_around]
  rcases Nat.lt_or_ge b hp.length with h1 | h1
  ·exact .inl (hb b (mem_lows.2 ⟨by simp [hb2], h1⟩))
  ·exact .inr ⟨h1, k.tidy.accb b hb2⟩
 have pre2 : Pre P I μ1 w hp1 (around hp hp1 acc) hp2.length := pre.after h.tidy G1 fun b hb h1 => by
  rcases mem_around.1 hb with h2 | h2
  ·exact h2
  ·omega
 obtain ⟨μ2, G2⟩ := k.run pre2 hb2
 exact ⟨μ2, Good.comp h.tidy pre G1 k.tidy hb2 (fun b h1 h2 => .inl (mem_around.2 (.inl h2))) (fun b h1 h2 => mem_around.2 (.inr ⟨h1, h2⟩)) hb1 (fun b h1 h2 => hb b (mem_lows.2 ⟨by simp [h1], h2⟩)) G2⟩
theorem OpOK.prep {e : Operand → V} {op : Op} {out : Out} (h : PrepOK P hp hp1 bs) (k : OpOK P e hp1 op out) : OpOK P e hp op ⟨out.v, out.hp, lows hp (bs ++ out.acc), lows hp (bs ++ out.wr)⟩ := by
 refine ⟨h.tidy.comp k.tidy, fun {I μ w oper a K Q} ho hops pre hK => ?_⟩
 have hb1 : ∀ b ∈ bs, b ∈ lows hp (bs ++ out.acc) := fun b hb1 => mem_lows.2 ⟨by simp [hb1], h.tidy.accb b hb1⟩
 obtain ⟨μ1, G1⟩ := h.run (pre.top k.tidy.len) hb1
 have pre2 : Pre P I μ1 w hp1 (around hp hp1 (lows hp (bs ++ out.acc))) out.hp.length := pre.after h.tidy G1 fun b hb h1 => by
  rcases mem_around.1 hb with h2 | h2
  ·exact h2
  ·omega
 have hacc : ∀ b ∈ out.acc, b ∈ around hp hp1 (lows hp (bs ++ out.acc)) := by
  intro b hb
  rw [mem_around]
  rcases Nat.lt_or_ge b hp.length with h1 | h1
  ·exact .inl (mem_lows.2 ⟨by simp [hb], h1⟩)
  ·exact .inr ⟨h1, k.tidy.accb b hb⟩
 have pre3 : Pre P I μ1 w hp1 out.acc out.hp.length := ⟨pre2.ilt, fun b hb => pre2.holds b (hacc b hb), fun b hb c hc => pre2.inj b (hacc b hb) c (hacc c hc), pre2.fresh⟩
 refine k.wp ho (fun x hx => (hops x hx).keep (.refl w (fun _ => False)) (.refl I) G1.le) pre3 fun val w' μ' I' hR G2 => hK val w' μ' I' hR ?_
 have G2' := G2.frame pre2 hacc k.tidy k.tidy.wracc
 exact Good.comp h.tidy pre G1 k.tidy (fun b hb => hacc b (k.tidy.wracc b hb)) (fun b h1 h2 => .inl (mem_around.2 (.inl h2))) (fun b h1 h2 => mem_around.2 (.inr ⟨h1, h2⟩)) hb1 (fun b h1 h2 => mem_lows.2 ⟨by simp [k.tidy.wracc b h1], h2⟩) G2'
theorem PrepOK.of (t : Tidy hp hp1 bs bs) (h : ∀ {I : Nat → Prop} {μ : Mu} {w : World}, Pre P I μ w hp bs hp1.length → ∃ μ1, Good P I I μ μ1 w w hp hp1 bs bs) : PrepOK P hp hp1 bs := by
 refine ⟨t, fun {I μ w acc} pre hb => ?_⟩
 obtain ⟨μ1, G⟩ := h ⟨pre.ilt, fun b hb' => pre.holds b (hb b hb'), fun b h1 c h2 => pre.inj b (hb b h1) c (hb c h2), pre.fresh⟩
 exact ⟨μ1, G.frame pre hb t t.wracc⟩
theorem prep_tidy {b : Nat} {blk : Blk} (hb : hp[b]? = some (some blk)) (x : Option Blk) (news : Hp) : Tidy hp (hp.set b x ++ news) [b] [b] := by
 have hl := (List.getElem?_eq_some_iff.1 hb).1
 refine ⟨by simp, fun c hc hn => ?_, by simp, by simpa using hl, fun c hc => ⟨blk, by rw [List.mem_singleton] at hc; rw [hc]; exact hb⟩⟩
 have hne : ¬ b = c := fun e => hn (by simp [e])
 rw [List.getElem?_append_left (by simpa using hc), List.getElem?_set, if_neg hne]
theorem prepBlk {b : Nat} {l l' : List V} {T : TypeId} (hb : hp[b]? = some (some (l, T))) (hm : rowT T = true ∨ ∀ c, l = [.sld c] → l' = [.sld c]) (hlen : (flat l').length = (flat l).length)
  (hcr : ∀ {I : Nat → Prop} {μ : Mu} {w : World} {F : List Nat} {vs : List Value}, CR P I μ w F l vs → ∃ F', F'.Sublist F ∧ CR P I μ w F' l' vs) : PrepOK P hp (hp.set b (some (l', T))) [b] := by
 have t := prep_tidy hb (some (l', T)) []
 rw [List.append_nil] at t
 refine .of t fun {I μ w} pre => ?_
 have hH := pre.holds b (by simp) _ hb
 have hsame : l' = l → ∃ μ1, Good P I I μ μ1 w w hp (hp.set b (some (l', T))) [b] [b] := by
  rintro rfl
  have e : hp.set b (some (l', T)) = hp := by
   apply List.ext_getElem?
   intro j
   rw [List.getElem?_set]
   split
   ·rename_i e
    subst e
    rw [hb, if_pos (List.getElem?_eq_some_iff.1 hb).1]
   ·rfl
  rw [e]
  have G := Good.same hp (pre.top (by simp))
  refine ⟨μ, G.isub, fun k hk => .inl hk, .refl _ _, .refl _, fun _ _ h => .inl h, fun _ _ _ => rfl, G.holds, fun c hc blk h g hg => ?_, G.inj⟩
  rcases hc with hc | hc
  ·rw [List.getElem?_eq_none hc] at h; cases h
  ·exact .inr ⟨c, hc, hg, _, h⟩
 rcases hH with ⟨g, cs, fr, h1, h2, h3, h4, ⟨h5, h6⟩, h7, h8⟩ | ⟨h1, h2⟩ | ⟨g, es, ck, c, h1, h2, h3, he, h4, h5⟩
 rotate_right
 ·cases he
  rcases hm with hm | hm
  ·simp [rowT, mapTid] at hm
  ·exact hsame (hm _ rfl)
 ·obtain ⟨F', hF, hc⟩ := hcr h6
  have G := Good.writeC (blk' := (l', T)) (cs := cs) (pre.top (by simp)) (by simp) hb h1 h3 rfl rfl h4 hF ⟨by simp only; rw [hlen]; exact h5, by simp only; rw [hlen]; exact hc⟩
  rw [setRow_self w g cs T fr h3] at G
  exact ⟨_, G⟩
 ·refine ⟨μ, .refl _, fun _ h => .inl h, .refl _ _, .refl _, fun _ _ h => .inl h, fun _ _ _ => rfl, fun c hc blk hblk => ?_, fun c hc blk hblk g hg => ?_, fun c d b1 b2 g hne hc hd e1 e2 g1 g2 => ?_⟩
  ·rcases set_at' hblk with ⟨rfl, rfl⟩ | ⟨hcb, h⟩
   ·exact .inr (.inl ⟨h1, h2⟩)
   ·rcases hc with hc | hc
    ·exact absurd (by simpa using hc) hcb
    ·rw [List.getElem?_eq_none hc] at h; cases h
  ·have hcb : c = b := by
    rcases hc with hc | hc
    ·have := (List.getElem?_eq_some_iff.1 hblk).1; simp at this; omega
    ·simpa using hc
   subst hcb
   rcases hg with hg | hg
   ·rw [h1] at hg; cases hg
   ·rw [h2] at hg; cases hg
  ·have key : ∀ (c : Nat) (b1 : Blk), (c ∈ [b] ∨ hp.length ≤ c) → (hp.set b (some (l', T)))[c]? = some (some b1) → c = b := by
    intro c b1 hc e1
    rcases hc with hc | hc
    ·simpa using hc
    ·have := (List.getElem?_eq_some_iff.1 e1).1; simp at this; omega
   exact hne ((key c b1 hc e1).trans (key d b2 hd e2).symm)
theorem prepOpen {b : Nat} {pr po cs : List V} {T E : TypeId} {n : Nat} {o : Bool} (hb : hp[b]? = some (some (pr ++ .osl E n o cs :: po, T))) :
  PrepOK P hp (hp.set b (some (pr ++ .sl hp.length 0 n false :: po, T)) ++ [some ([mkS o cs], E)]) [b] := by
 have hbl := (List.getElem?_eq_some_iff.1 hb).1
 refine .of (prep_tidy hb _ _) fun {I μ w} pre => ?_
 have hH := pre.holds b (by simp) _ hb
 have hfresh : μ hp.length = none := pre.fresh _ (Nat.le_refl _) (by simp)
 have hat : ∀ c blk, (hp.set b (some (pr ++ .sl hp.length 0 n false :: po, T)) ++ [some ([mkS o cs], E)])[c]? = some (some blk) → (c ∈ [b] ∨ hp.length ≤ c) → (c = b ∧ blk = (pr ++ .sl hp.length 0 n false :: po, T)) ∨ (c = hp.length ∧ blk = ([mkS o cs], E)) := by
  intro c blk h hc
  rcases app_at h with ⟨h1, h⟩ | ⟨h1, h⟩
  ·simp only [List.length_set] at h1
   have hcb : c = b := by
    rcases hc with hc | hc
    ·simpa using hc
    ·omega
   rcases set_at' h with ⟨_, h⟩ | ⟨h2, _⟩
   ·exact .inl ⟨hcb, h⟩
   ·exact absurd hcb h2
  ·simp only [List.length_set] at h1
   exact .inr ⟨h1, h⟩
 have fin : ∀ μ1 : Mu, MuLe μ μ1 → (∀ c g, μ1 c = some g → μ c = some g ∨ c = hp.length) → (∀ c, c ≠ b → c ≠ hp.length → μ1.ft c = μ.ft c) →
   Holds P I μ1 w b (pr ++ .sl hp.length 0 n false :: po, T) → Holds P I μ1 w hp.length ([mkS o cs], E) → (∀ g, μ1.own b g → μ.own b g) → (∀ g, μ1.own hp.length g → μ.own b g) → (∀ g, μ1.own b g → μ1.own hp.length g → False) →
   ∃ μ1, Good P I I μ μ1 w w hp (hp.set b (some (pr ++ .sl hp.length 0 n false :: po, T)) ++ [some ([mkS o cs], E)]) [b] [b] := by
  intro μ1 hle hdom hft hB hN ob oN hdis
  refine ⟨μ1, .refl _, fun _ h => .inl h, .refl _ _, hle, fun c g h => ?_, fun c hc hn => ?_, fun c hc blk hblk => ?_, fun c hc blk hblk g hg => ?_, fun c d b1 b2 g hne hc hd e1 e2 g1 g2 => ?_⟩
  ·rcases hdom c g h with h | h
   ·exact .inl h
   ·right; simp; omega
  ·exact hft c (by simpa using hc) (fun e => hn ⟨by omega, by simp; omega⟩)
  ·rcases hat c blk hblk hc with ⟨rfl, rfl⟩ | ⟨rfl, rfl⟩
   ·exact hB
   ·exact hN
  ·have hc' : c ∈ [b] ∨ hp.length ≤ c := hc.symm
   right
   refine ⟨b, by simp, ?_, _, hb⟩
   rcases hat c blk hblk hc' with ⟨rfl, rfl⟩ | ⟨rfl, rfl⟩
   ·exact ob g hg
   ·exact oN g hg
  ·rcases hat c b1 e1 hc with ⟨rfl, _⟩ | ⟨rfl, _⟩
   ·rcases hat d b2 e2 hd with ⟨rfl, _⟩ | ⟨rfl, _⟩
    ·exact hne rfl
    ·exact hdis g g1 g2
   ·rcases hat d b2 e2 hd with ⟨rfl, _⟩ | ⟨rfl, _⟩
    ·exact hdis g g2 g1
    ·exact hne rfl
 have hbn : b ≠ hp.length := by omega
 rcases hH with ⟨g, row, fr, h1, h2, h3, h4, ⟨h5, h6⟩, h7, h8⟩ | ⟨h1, h2⟩ | ⟨_, _, _, _, _, _, _, he, _⟩
 rotate_right
 ·have he1 := congrArg Prod.fst he
  simp only at he1
  cases pr with
  | nil => cases he1
  | cons x pr => have := congrArg List.length he1; simp at this
 ·obtain ⟨F1, F2, us, us', hvs, hF, k1, k2⟩ := CR.append_iff.1 h6
  obtain ⟨u, us2, Fo, F3, rfl, rfl, k3, k4⟩ := (CR.cons_iff rfl).1 k2
  have k5 : V.O P I w Fo (.osl E n o cs) u := k3
  have hnd := h7
  rw [hF, List.nodup_cons] at hnd
  obtain ⟨hng, hnd⟩ := hnd
  have hlen : (flat (pr ++ .sl hp.length 0 n false :: po)).length = (flat (pr ++ .osl E n o cs :: po)).length := by
   rw [flat_append, flat_append, flat_cons rfl, flat_cons rfl]; simp
  have hsub : (F1 ++ F3).Sublist (μ.ft b) := by
   rw [hF]; exact (List.Sublist.refl F1).append (List.sublist_append_right Fo F3)
  rcases O_osl.1 k5 with ⟨rfl, rfl, hnil⟩ | ⟨g2, cap, i, cells, fr2, F', hu, rfl, q3, q4, q5, q6, q7, q8, q9, q10⟩
  ·-- it has no room
   refine fin ((μ.setFt b (F1 ++ F3)).setFt hp.length []) (fun _ _ h => h) (fun _ _ h => .inl h) (fun c hc hc2 => by rw [Mu.setFt_fne _ _ hc2, Mu.setFt_fne _ _ hc]) ?_ (.inr (.inl ⟨hfresh, by rw [Mu.setFt_ft]⟩)) ?_ ?_ ?_
   ·refine .inl ⟨g, row, fr, h1, h2, h3, h4, ⟨by rw [hlen]; exact h5, ?_⟩, ?_, ?_⟩
    ·rw [Mu.setFt_fne _ _ hbn, Mu.setFt_ft, hlen, hvs]
     have hle : MuLe μ ((μ.setFt b (F1 ++ F3)).setFt hp.length []) := fun _ _ h => h
     have hx : V.R P I ((μ.setFt b (F1 ++ F3)).setFt hp.length []) w (.sl hp.length 0 0 false) u := by
      simp only [V.R]
      exact .inr ⟨trivial, trivial, hnil⟩
     have hc := CR.append_iff.2 ⟨F1, _, us, _, rfl, rfl, k1.keep (.refl w (fun _ => False)) (.refl I) hle (fun _ _ h => h), (CR.cons_iff rfl).2 ⟨u, us2, [], F3, rfl, rfl, OX_ofR hx, k4.keep (.refl w (fun _ => False)) (.refl I) hle (fun _ _ h => h)⟩⟩
     rwa [List.nil_append] at hc
    ·rw [Mu.setFt_fne _ _ hbn, Mu.setFt_ft, List.nodup_cons]
     exact ⟨fun h => hng (by rw [← hF]; exact hsub.subset h), hnd.sublist (by rw [← hF]; exact hsub)⟩
    ·intro k hk
     rw [Mu.setFt_fne _ _ hbn, Mu.setFt_ft] at hk
     exact h8 k (hsub.subset hk)
   ·rintro k (hk | hk)
    ·exact .inl hk
    ·rw [Mu.setFt_fne _ _ hbn, Mu.setFt_ft] at hk; exact .inr (hsub.subset hk)
   ·rintro k (hk | hk)
    ·have hk' : μ hp.length = some k := hk
     rw [hfresh] at hk'; cases hk'
    ·rw [Mu.setFt_ft] at hk; cases hk
   ·rintro k _ (hk | hk)
    ·have hk' : μ hp.length = some k := hk
     rw [hfresh] at hk'; cases hk'
    ·rw [Mu.setFt_ft] at hk; cases hk
  ·have hgF : ∀ k, k ∈ g2 :: F' → k ∈ μ.ft b := by
    intro k hk; rw [hF]; simp only [List.mem_append]; exact .inr (.inl hk)
   have hle : MuLe μ ((μ.setFt b (F1 ++ F3)).put hp.length g2 F') := (Mu.setFt_le b _).trans (Mu.put_le (by exact hfresh))
   have hnd2 : ∀ k, k ∈ g2 :: F' → k ∉ F1 ++ F3 := by
    intro k hk hk2
    rw [List.nodup_append] at hnd
    obtain ⟨n1, n2, n3⟩ := hnd
    rw [List.nodup_append] at n2
    rcases List.mem_append.1 hk2 with h | h
    ·exact n3 k h k (List.mem_append.2 (.inl hk)) rfl
    ·exact n2.2.2 k hk k h rfl
   have hnF : (g2 :: F').Nodup := by
    rw [List.nodup_append] at hnd
    have := hnd.2.1
    rw [List.nodup_append] at this
    exact this.1
   have nmb : ((μ.setFt b (F1 ++ F3)).put hp.length g2 F') b = some g := by rw [Mu.put_ne _ _ _ hbn]; exact h1
   have ftb : ((μ.setFt b (F1 ++ F3)).put hp.length g2 F').ft b = F1 ++ F3 := by rw [Mu.put_fne _ _ _ hbn, Mu.setFt_ft]
   refine fin ((μ.setFt b (F1 ++ F3)).put hp.length g2 F') hle (fun c k h => ?_) (fun c hc hc2 => by rw [Mu.put_fne _ _ _ hc2, Mu.setFt_fne _ _ hc]) ?_ (.inl ⟨g2, cells, fr2, Mu.put_at _ _ _ _, (h8 g2 (hgF g2 (by simp))).1, q6, q7, ⟨by rw [flat_mkS]; exact q9, ?_⟩, ?_, ?_⟩) ?_ ?_ ?_
   ·by_cases hc : c = hp.length
    ·exact .inr hc
    ·rw [Mu.put_ne _ _ _ hc] at h; exact .inl h
   ·refine .inl ⟨g, row, fr, nmb, h2, h3, h4, ⟨by rw [hlen]; exact h5, ?_⟩, ?_, ?_⟩
    ·rw [ftb, hlen, hvs]
     have hx : V.R P I ((μ.setFt b (F1 ++ F3)).put hp.length g2 F') w (.sl hp.length 0 n false) u := by
      simp only [V.R]
      exact .inl ⟨g2, cap, E, cells.size, i, Mu.put_at _ _ _ _, hu, q3, q4, by simp, shape_of q6, q5, by omega⟩
     have hc := CR.append_iff.2 ⟨F1, _, us, _, rfl, rfl, k1.keep (.refl w (fun _ => False)) (.refl I) hle (fun _ _ h => h), (CR.cons_iff rfl).2 ⟨u, us2, [], F3, rfl, rfl, OX_ofR hx, k4.keep (.refl w (fun _ => False)) (.refl I) hle (fun _ _ h => h)⟩⟩
     rwa [List.nil_append] at hc
    ·rw [ftb, List.nodup_cons]
     exact ⟨fun h => hng (by rw [← hF]; exact hsub.subset h), hnd.sublist (by rw [← hF]; exact hsub)⟩
    ·intro k hk
     rw [ftb] at hk
     exact h8 k (hsub.subset hk)
   ·rw [Mu.put_ft, flat_mkS]; exact CR.sealedO q10
   ·rw [Mu.put_ft]; exact hnF
   ·intro k hk
    rw [Mu.put_ft] at hk
    exact h8 k (hgF k (by simp [hk]))
   ·rintro k (hk | hk)
    ·rw [nmb] at hk; cases hk; exact .inl h1
    ·rw [ftb] at hk; exact .inr (hsub.subset hk)
   ·intro k hk
    exact .inr (hgF k (by rcases Mu.own_at _ hk with rfl | h; simp; simp [h]))
   ·intro k hk1 hk2
    have hk2' : k ∈ g2 :: F' := by rcases Mu.own_at _ hk2 with rfl | h; simp; simp [h]
    rcases hk1 with hk | hk
    ·rw [nmb] at hk; cases hk
     exact hng (by rw [← hF]; exact hgF g hk2')
    ·rw [ftb] at hk; exact hnd2 k hk2' hk
 ·-- the block itself is that of a slice that is nil
  refine fin (μ.setFt hp.length []) (fun _ _ h => h) (fun _ _ h => .inl h) (fun c hc hc2 => by rw [Mu.setFt_fne _ _ hc2]) (.inr (.inl ⟨h1, by rw [Mu.setFt_fne _ _ hbn]; exact h2⟩)) (.inr (.inl ⟨hfresh, by rw [Mu.setFt_ft]⟩)) ?_ ?_ ?_
  ·rintro k (hk | hk)
   ·exact .inl hk
   ·rw [Mu.setFt_fne _ _ hbn] at hk; exact .inr hk
  ·rintro k (hk | hk)
   ·have hk' : μ hp.length = some k := hk
    rw [hfresh] at hk'; cases hk'
   ·rw [Mu.setFt_ft] at hk; cases hk
  ·rintro k _ (hk | hk)
   ·have hk' : μ hp.length = some k := hk
    rw [hfresh] at hk'; cases hk'
   ·rw [Mu.setFt_ft] at hk; cases hk
theorem prepPack {b c : Nat} {pr po l2 : List V} {T E : TypeId} {n : Nat} {f : Bool} (hne : b ≠ c) (hb : hp[b]? = some (some (pr ++ .sl c 0 n f :: po, T))) (hc : hp[c]? = some (some (l2, E))) (hr : V.refsL l2 = []) :
  PrepOK P hp ((hp.set b (some (pr ++ .osl E n (hasO l2) (flat l2) :: po, T))).set c none) [b, c] := by
 have hbl := (List.getElem?_eq_some_iff.1 hb).1
 have hcl := (List.getElem?_eq_some_iff.1 hc).1
 refine .of ⟨by simp, fun d hd hn => ?_, by simp, fun d hd => ?_, fun d hd => ?_⟩ fun {I μ w} pre => ?_
 ·simp only [List.mem_cons, List.not_mem_nil, or_false, not_or] at hn
  rw [List.getElem?_set, if_neg (fun e => hn.2 e.symm), List.getElem?_set, if_neg (fun e => hn.1 e.symm)]
 ·simp only [List.mem_cons, List.not_mem_nil, or_false] at hd
  rcases hd with rfl | rfl <;> assumption
 ·simp only [List.mem_cons, List.not_mem_nil, or_false] at hd
  rcases hd with rfl | rfl
  ·exact ⟨_, hb⟩
  ·exact ⟨_, hc⟩
 have hH := pre.holds b (by simp) _ hb
 have hC := pre.holds c (by simp) _ hc
 have hat : ∀ d blk, ((hp.set b (some (pr ++ .osl E n (hasO l2) (flat l2) :: po, T))).set c none)[d]? = some (some blk) → (d ∈ [b, c] ∨ hp.length ≤ d) → d = b ∧ blk = (pr ++ .osl E n (hasO l2) (flat l2) :: po, T) := by
  intro d blk h hd
  obtain ⟨h1, h⟩ := setnone_at h
  have hdb : d = b := by
   rcases hd with hd | hd
   ·simp only [List.mem_cons, List.not_mem_nil, or_false] at hd
    exact hd.resolve_right h1
   ·have := (List.getElem?_eq_some_iff.1 h).1; simp at this; omega
  rcases set_at' h with ⟨_, h⟩ | ⟨h2, _⟩
  ·exact ⟨hdb, h⟩
  ·exact absurd hdb h2
 have fin : ∀ F : List Nat, Holds P I (μ.setFt b F) w b (pr ++ .osl E n (hasO l2) (flat l2) :: po, T) → (∀ g ∈ F, μ.own b g ∨ μ.own c g) → ∃ μ1, Good P I I μ μ1 w w hp ((hp.set b (some (pr ++ .osl E n (hasO l2) (flat l2) :: po, T))).set c none) [b, c] [b, c] := by
  intro F hB hF
  refine ⟨μ.setFt b F, .refl _, fun _ h => .inl h, .refl _ _, Mu.setFt_le b F, fun _ _ h => .inl h, fun d hd _ => Mu.setFt_fne _ _ (by rintro rfl; simp at hd), fun d hd blk hblk => ?_, fun d hd blk hblk g hg => ?_, fun d e b1 b2 g hne hd he e1 e2 g1 g2 => ?_⟩
  ·obtain ⟨rfl, rfl⟩ := hat d blk hblk hd
   exact hB
  ·obtain ⟨rfl, rfl⟩ := hat d blk hblk hd.symm
   right
   rcases hg with hg | hg
   ·exact ⟨d, by simp, .inl hg, _, hb⟩
   ·rw [Mu.setFt_ft] at hg
    rcases hF g hg with h | h
    ·exact ⟨d, by simp, h, _, hb⟩
    ·exact ⟨c, by simp, h, _, hc⟩
  ·exact hne ((hat d b1 e1 hd).1.trans (hat e b2 e2 he).1.symm)
 rcases hH with ⟨g, row, fr, h1, h2, h3, h4, ⟨h5, h6⟩, h7, h8⟩ | ⟨h1, h2⟩ | ⟨_, _, _, _, _, _, _, he, _⟩
 rotate_right
 ·have he1 := congrArg Prod.fst he
  simp only at he1
  cases pr with
  | nil => cases he1
  | cons x pr => have := congrArg List.length he1; simp at this
 ·obtain ⟨F1, F2, us, us', hvs, hF, k1, k2⟩ := CR.append_iff.1 h6
  obtain ⟨u, us2, Fo, F3, rfl, rfl, k3, k4⟩ := (CR.cons_iff rfl).1 k2
  obtain ⟨rfl, k5⟩ := k3.plain rfl
  rw [List.nil_append] at hF
  have hlen : (flat (pr ++ .osl E n (hasO l2) (flat l2) :: po)).length = (flat (pr ++ .sl c 0 n f :: po)).length := by
   rw [flat_append, flat_append, flat_cons rfl, flat_cons rfl]; simp
  have key : ∀ Fo : List Nat, V.O P I w Fo (.osl E n (hasO l2) (flat l2)) u → (g :: (F1 ++ (Fo ++ F3))).Nodup → (∀ k ∈ Fo, ¬ I k ∧ k < w.heap.size ∧ (μ.own b k ∨ μ.own c k)) → ∃ μ1, Good P I I μ μ1 w w hp ((hp.set b (some (pr ++ .osl E n (hasO l2) (flat l2) :: po, T))).set c none) [b, c] [b, c] := by
   intro Fo hO hnd hFo
   have hle : MuLe μ (μ.setFt b (F1 ++ (Fo ++ F3))) := Mu.setFt_le b _
   refine fin (F1 ++ (Fo ++ F3)) (.inl ⟨g, row, fr, h1, h2, h3, h4, ⟨by rw [hlen]; exact h5, ?_⟩, by rw [Mu.setFt_ft]; exact hnd, fun k hk => ?_⟩) fun k hk => ?_
   ·rw [Mu.setFt_ft, hlen, hvs]
    exact CR.append_iff.2 ⟨F1, _, us, _, rfl, rfl, k1.keep (.refl w (fun _ => False)) (.refl I) hle (fun _ _ h => h), (CR.cons_iff rfl).2 ⟨u, us2, Fo, F3, rfl, rfl, OX_ofO hO, k4.keep (.refl w (fun _ => False)) (.refl I) hle (fun _ _ h => h)⟩⟩
   ·rw [Mu.setFt_ft] at hk
    rcases List.mem_append.1 hk with h | h
    ·exact h8 k (by rw [hF]; simp [h])
    ·rcases List.mem_append.1 h with h | h
     ·exact ⟨(hFo k h).1, (hFo k h).2.1⟩
     ·exact h8 k (by rw [hF]; simp [h])
   ·rcases List.mem_append.1 hk with h | h
    ·exact .inl (.inr (by rw [hF]; simp [h]))
    ·rcases List.mem_append.1 h with h | h
     ·exact (hFo k h).2.2
     ·exact .inl (.inr (by rw [hF]; simp [h]))
  simp only [V.R] at k5
  rcases k5 with ⟨g2, cap, e, N, i, hg2, rfl, q1, q2, _, q4, q5, q6⟩ | ⟨_, rfl, hnil⟩
  ·obtain ⟨row2, fr2, r1, r2, r3, ⟨r4, r5⟩, r6, r7⟩ := hC.realS hg2 q4
   have hsh := shape_of r2
   rw [q4] at hsh
   cases hsh
   refine key (g2 :: μ.ft c) (O_osl.2 (.inr ⟨g2, cap, i, row2, fr2, μ.ft c, rfl, rfl, q1, q2, q5, r2, r3, by omega, r4, r5.nomuS hr⟩)) ?_ fun k hk => ?_
   ·have hdis : ∀ k, μ.own b k → k ∈ g2 :: μ.ft c → False := by
     intro k h1 h2
     refine pre.inj b (by simp) c (by simp) _ _ k hne hb hc h1 ?_
     rcases List.mem_cons.1 h2 with rfl | h2
     ·exact .inl hg2
     ·exact .inr h2
    rw [List.nodup_cons, hF] at h7
    have hn2 := h7.2
    rw [List.nodup_append] at hn2
    obtain ⟨n1, n3, n13⟩ := hn2
    rw [List.nodup_cons]
    refine ⟨fun h => ?_, ?_⟩
    ·rcases List.mem_append.1 h with h | h
     ·exact h7.1 (by simp [h])
     ·rcases List.mem_append.1 h with h | h
      ·exact hdis g (.inl h1) h
      ·exact h7.1 (by simp [h])
    ·rw [List.nodup_append]
     refine ⟨n1, ?_, fun a ha k hk e => ?_⟩
     ·rw [List.nodup_append]
      exact ⟨r6, n3, fun a ha k hk e => hdis k (.inr (by rw [hF]; simp [hk])) (by rw [← e]; exact ha)⟩
     ·subst e
      rcases List.mem_append.1 hk with h | h
      ·exact hdis a (.inr (by rw [hF]; simp [ha])) h
      ·exact n13 a ha a h rfl
   ·rcases List.mem_cons.1 hk with rfl | hk
    ·exact ⟨r1, (Array.getElem?_eq_some_iff.1 r2).1, .inr (.inl hg2)⟩
    ·exact ⟨(r7 k hk).1, (r7 k hk).2, .inr (.inr hk)⟩
  ·refine key [] (O_osl.2 (.inl ⟨rfl, rfl, hnil⟩)) (by rw [List.nil_append, ← hF]; exact h7) (by simp)
 ·refine fin (μ.ft b) (.inr (.inl ⟨h1, by rw [Mu.setFt_ft]; exact h2⟩)) (fun k hk => .inl (.inr hk))
theorem OS.pieces {I : Nat → Prop} {μ : Mu} {w : World} {o : Bool} {F : List Nat} {v : List V} {vs : List Value} (h : OS P I w o F v vs) : CR P I μ w F v vs := by
 cases o
 ·obtain ⟨rfl, h⟩ := h; exact .of (RL_up h)
 ·have := OXL_ofOL (μ := μ) h
  exact .ofXL (noSeal_of_XL this) this
theorem prepShow {b : Nat} {o : Bool} {c v : List V} {T : TypeId} {base es : Nat} (hb : hp[b]? = some (some ([mkS o c], T))) (hv : (c.drop base).take es = v) (hs : hasSeal v = false) (hl : base + es ≤ c.length) (hT : rowT T = true) :
  PrepOK P hp (hp.set b (some ([mkS o (c.take base)] ++ v ++ [mkS o (c.drop (base + es))], T))) [b] := by
 refine prepBlk hb (.inl hT) ?_ fun {I μ w F vs} h => ?_
 ·rw [flat_append, flat_append, flat_mkS, flat_mkS, flat_mkS, flat_noSeal hs, ← hv]
  simp only [List.length_append, List.length_take, List.length_drop]; omega
 ·obtain ⟨us, vs', F1, F2, rfl, rfl, h1, h2⟩ := CR.sealO_iff.1 h
  obtain ⟨rfl, rfl⟩ := CR.nil_iff.1 h2
  obtain ⟨G1, G2, hG, k1, k2⟩ := h1.split base
  obtain ⟨G3, G4, hG2, k3, k4⟩ := k2.split es
  simp only [List.drop_drop] at k4
  rw [hv] at k3
  refine ⟨G1 ++ (G3 ++ G4), by rw [hG, hG2]; simp, ?_⟩
  have hvs : us ++ [] = us.take base ++ ((us.drop base).take es ++ us.drop (base + es)) := by
   rw [← List.drop_drop, List.take_append_drop, List.take_append_drop, List.append_nil]
  rw [hvs, List.append_assoc]
  exact (CR.sealedO k1).append (k3.pieces.append (CR.sealedO k4))
def V.nilish : V → Bool
 | .dsl 0 true _ => true
 | .lit (.slice none 0 0) => true
 | .sl _ _ 0 true => true
 | _ => false
theorem nilish_R {I : Nat → Prop} {μ : Mu} {w : World} {c : V} {u : Value} (h : c.nilish = true) (hR : V.R P I μ w c u) : Nilish u := by
 unfold V.nilish at h
 split at h
 ·simp only [V.R] at hR
  obtain ⟨a, cap, rfl, _, hf, ha, _⟩ := hR
  obtain rfl : cap = 0 := hf trivial
  exact ⟨a, rfl, ha.imp (fun h => h.1) id⟩
 ·simp only [V.R] at hR
  exact ⟨none, hR, .inl rfl⟩
 ·simp only [V.R] at hR
  rcases hR with ⟨g, cap, e, N, i, _, rfl, _, _, hf, _⟩ | ⟨_, _, h⟩
  ·obtain rfl : cap = 0 := hf trivial
   exact ⟨_, rfl, .inr ⟨_, _, rfl⟩⟩
  ·exact h
 ·cases h
theorem prepNil {b : Nat} {pr po : List V} {c : V} {T E : TypeId} (hc : c.nilish = true) (hb : hp[b]? = some (some (pr ++ c :: po, T))) : PrepOK P hp (hp.set b (some (pr ++ .osl E 0 false [] :: po, T))) [b] := by
 have hcs : c.seals = none := by unfold V.nilish at hc; split at hc <;> first | rfl | cases hc
 have hco : c.isO = false := by unfold V.nilish at hc; split at hc <;> first | rfl | cases hc
 refine prepBlk hb (.inr fun x e => ?_) ?_ fun {I μ w F vs} h => ?_
 ·cases pr with
  | nil => rw [List.nil_append] at e; cases e; cases hcs
  | cons y pr => have := congrArg List.length e; simp at this
 ·rw [flat_append, flat_append, flat_cons hcs, flat_cons rfl]; simp
 ·obtain ⟨F1, F2, us, us', rfl, rfl, k1, k2⟩ := CR.append_iff.1 h
  obtain ⟨u, us2, Fo, F3, rfl, rfl, k3, k4⟩ := (CR.cons_iff hcs).1 k2
  obtain ⟨rfl, k5⟩ := k3.plain hco
  exact ⟨_, .refl _, CR.append_iff.2 ⟨F1, _, us, _, rfl, rfl, k1, (CR.cons_iff rfl).2 ⟨u, us2, [], F3, rfl, rfl, OX_ofO (O_osl.2 (.inl ⟨rfl, rfl, nilish_R hc k5⟩)), k4⟩⟩⟩
end
end Go.Proofs.YtfncaghjfgnnhaaGreatDoor

namespace Go.Proofs.YtfncaghjfgnnhaaGreatDoor
open Go.RowKit
set_option maxRecDepth 100000
section
variable {P : Program} {m : Nat} {s : St} {hp1 : Hp} {bs : List Nat}
theorem PrepOK.weakV (h : PrepOK P s.hp hp1 bs) : WeakV P m s ⟨s.tm, hp1, s.wr ++ bs⟩ id := by
 constructor
 ·intro hp0 e C
  refine ⟨Nat.le_trans C.len h.tidy.len, fun b hb hn => ?_, fun b hb hal => ?_⟩
  ·simp only [List.mem_append, not_or] at hn
   show hp1[b]? = _
   rw [h.tidy.frame b (Nat.lt_of_lt_of_le hb C.len) hn.2]
   exact C.frame b hb hn.1
  ·by_cases hbs : b ∈ bs
   ·exact C.alive b hb (h.tidy.walive b hbs)
   ·obtain ⟨blk, hal⟩ := hal
    exact C.alive b hb ⟨blk, by rw [← h.tidy.frame b (Nat.lt_of_lt_of_le hb C.len) hbs]; exact hal⟩
 ·intro hp0 I0 μ0 w0 e a w Im μ C
  subst e
  have hl := C.len
  have hfr : ∀ b, hp1.length ≤ b → μ b = none := by
   intro b hb
   cases hq : μ b with
   | none => rfl
   | some g => have := C.dom b g hq; have := h.tidy.len; omega
  obtain ⟨μ1, G⟩ := h.run (I := Im) (μ := μ) (w := w) (acc := List.range s.hp.length) ⟨C.ilt, fun b _ blk hb => C.holds b blk hb, fun b _ c _ b1 b2 g hne h1 h2 => C.inj b c b1 b2 g hne h1 h2, fun b h1 h2 => by
   cases hq : μ b with
   | none => rfl
   | some g => have := C.dom b g hq; omega⟩ (fun b hb => by simpa using h.tidy.accb b hb)
  have hin : ∀ b, b ∈ List.range s.hp.length ∨ s.hp.length ≤ b := fun b => by rw [List.mem_range]; omega
  have back : ∀ c blk, hp1[c]? = some (some blk) → ∀ g, μ1.own c g → (hp0.length ≤ c ∨ c ∈ s.wr ++ bs) → w0.heap.size ≤ g ∨ ∃ d ∈ s.wr ++ bs, d < hp0.length ∧ μ0.own d g ∧ Alive hp0 d := by
   intro c blk hc g hg hcc
   rcases G.back h.tidy.accb h.tidy.frame hc hg with h1 | ⟨d, h1, h2, h3, h4⟩
   ·exact .inl (Nat.le_trans C.evo.size h1)
   ·obtain ⟨blk', h4⟩ := h4
    by_cases hd : hp0.length ≤ d ∨ d ∈ s.wr
    ·rcases C.prov d hd blk' h4 g h3 with h5 | ⟨f, k1, k2, k3, k4⟩
     ·exact .inl h5
     ·exact .inr ⟨f, by simp [k1], k2, k3, k4⟩
    ·simp only [not_or, Nat.not_le] at hd
     have hdb : d ∈ s.wr ++ bs := by
      rcases h1 with h1 | rfl
      ·simp [h1]
      ·rcases hcc with h5 | h5
       ·omega
       ·exact h5
     refine .inr ⟨d, hdb, hd.1, ?_, C.alive d hd.1 ⟨blk', h4⟩⟩
     rcases h3 with h3 | h3
     ·exact .inl (C.dom0 d g h3 hd.1)
     ·rw [C.ftd d hd.1 hd.2] at h3; exact .inr h3
  refine ⟨Im, μ1, ⟨fun t => (C.tm t).keep (.refl w (fun _ => False)) (.refl _) G.le, C.size, C.defers, fun b blk hb => G.holds b (hin b) blk hb, fun b c b1 b2 g hne h1 h2 => G.inj b c b1 b2 g hne (hin b) (hin c) h1 h2, fun b g hg => ?_, fun b g hg hb => ?_, fun b hb hn => ?_, C.evo.mono fun k ⟨b, hb, h2⟩ => ⟨b, by simp [hb], h2⟩, C.le.trans G.le, fun b hb blk hblk g hg => back b blk hblk g hg hb, Nat.le_trans hl h.tidy.len, fun b hb hn => ?_, fun b hb hal => ?_, fun b hb hl => ?_, C.isub, fun k hk => ?_, C.ilt, C.ent⟩, fun v u hR => hR.keep (.refl w (fun _ => False)) (.refl _) G.le⟩
  ·rcases G.dom b g hg with h1 | h1
   ·exact Nat.lt_of_lt_of_le (C.dom b g h1) h.tidy.len
   ·exact h1.2
  ·rcases G.dom b g hg with h1 | h1
   ·exact C.dom0 b g h1 hb
   ·omega
  ·simp only [List.mem_append, not_or] at hn
   rw [G.ftd b hn.2 (by omega)]
   exact C.ftd b hb hn.1
  ·simp only [List.mem_append, not_or] at hn
   show hp1[b]? = _
   rw [h.tidy.frame b (Nat.lt_of_lt_of_le hb hl) hn.2]
   exact C.frame b hb hn.1
  ·by_cases hbs : b ∈ bs
   ·exact C.alive b hb (h.tidy.walive b hbs)
   ·obtain ⟨blk, hal⟩ := hal
    exact C.alive b hb ⟨blk, by rw [← h.tidy.frame b (Nat.lt_of_lt_of_le hb hl) hbs]; exact hal⟩
  ·rcases List.mem_append.1 hb with hb | hb
   ·exact C.wal b hb hl
   ·exact C.alive b hl (h.tidy.walive b hb)
  ·rcases C.igrow k hk with h1 | h1 | ⟨c, h1, h2⟩
   ·exact .inl h1
   ·exact .inr (.inl h1)
   ·exact .inr (.inr ⟨c, by simp [h1], h2⟩)
theorem WeakV.trans {a b c : St} {f g : V → V} (h : WeakV P m a b f) (k : WeakV P m b c g) : WeakV P m a c (g ∘ f) :=
 ⟨fun hp0 e hs => k.st hp0 e (h.st hp0 e hs), fun e _ _ _ _ C => by
  obtain ⟨_, _, C1, h1⟩ := h.run e C
  obtain ⟨_, _, C2, h2⟩ := k.run e C1
  exact ⟨_, _, C2, fun v u hR => h2 _ _ (h1 _ _ hR)⟩⟩
theorem WeakV.trans' {a b c : St} (h : WeakV P m a b id) (k : WeakV P m b c id) : WeakV P m a c id := h.trans k
theorem WeakV.refl (a : St) : WeakV P m a a id := ⟨fun _ _ h => h, fun _ _ _ _ _ C => ⟨_, _, C, fun _ _ h => h⟩⟩
theorem WeakV.weak {a b : St} {f : V → V} (h : WeakV P m a b f) : Weak P m a b := ⟨h.st, fun e _ _ _ _ C => by
 obtain ⟨_, _, C1, _⟩ := h.run e C
 exact ⟨_, _, C1⟩⟩
end
abbrev OwnT := TypeId → Nat → Option TypeId
def offAt (l : List V) (j : Nat) : Nat := (l.take j).foldl (fun k x => match x.seals with | some _ => 0 | none => k + 1) 0
def ownRefs (ow : OwnT) (blk : Blk) : List Nat := blk.1.zipIdx.flatMap fun x => match x.1 with
 | .sl c _ _ _ => match ow blk.2 (offAt blk.1 x.2) with
  | some _ => [c]
  | none => []
 | c => V.refs c
def reachO (ow : OwnT) (hp : Hp) : Nat → List Nat → List Nat → List Nat
 | 0, _, seen => seen
 | _ + 1, [], seen => seen
 | n + 1, b :: t, seen =>
  if seen.contains b then reachO ow hp n t seen else
  match hp[b]? with
  | some (some blk) => reachO ow hp n (t ++ ownRefs ow blk) (seen ++ [b])
  | _ => reachO ow hp n t seen
def packAt (ow : OwnT) (m : Nat) (roots : List Nat) (b j : Nat) (s : St) : St :=
 match s.hp[b]? with
 | some (some blk) => match blk.1[j]? with
  | some (.sl c 0 n f) =>
   match (ow blk.2 (offAt blk.1 j)).isSome && Nat.ble m c && !roots.contains c && !(Nat.beq b c), s.hp[c]? with
   | true, some (some blk2) => match V.refsL blk2.1 with
    | [] => ⟨s.tm, (s.hp.set b (some (blk.1.take j ++ .osl blk2.2 n (hasO blk2.1) (flat blk2.1) :: blk.1.drop (j + 1), blk.2))).set c none, s.wr ++ [b, c]⟩
    | _ => s
   | _, _ => s
  | some c => match c.nilish, ow blk.2 (offAt blk.1 j) with
   | true, some E => ⟨s.tm, s.hp.set b (some (blk.1.take j ++ .osl E 0 false [] :: blk.1.drop (j + 1), blk.2)), s.wr ++ [b]⟩
   | _, _ => s
  | none => s
 | _ => s
def places (hp : Hp) (b : Nat) : List (Nat × Nat × Bool) := match hp[b]? with
 | some (some blk) => (List.range blk.1.length).map fun j => (b, j, true)
 | _ => []
def packL (ow : OwnT) (m : Nat) (roots : List Nat) : Nat → List (Nat × Nat × Bool) → St → St
 | 0, _, s => s
 | _ + 1, [], s => s
 | k + 1, (b, j, first) :: t, s =>
  match first, s.hp[b]? with
  | true, some (some blk) => match blk.1[j]? with
   | some (.sl c 0 n f) => packL ow m roots k (places s.hp c ++ (b, j, false) :: t) s
   | _ => packL ow m roots k t (packAt ow m roots b j s)
  | _, _ => packL ow m roots k t (packAt ow m roots b j s)
section
variable {P : Program} {m : Nat}
theorem take_drop_at {α : Type} {l : List α} {j : Nat} {x : α} (h : l[j]? = some x) : l = l.take j ++ x :: l.drop (j + 1) := by
 have hl := (List.getElem?_eq_some_iff.1 h).1
 conv => lhs; rw [← List.take_append_drop j l]
 rw [List.drop_eq_getElem_cons hl]
 rw [List.getElem?_eq_getElem hl] at h
 rw [Option.some.inj h]
theorem packAt_ok (ow : OwnT) (roots : List Nat) (b j : Nat) (s : St) : WeakV P m s (packAt ow m roots b j s) id := by
 unfold packAt
 split
 case h_2 => exact .refl s
 rename_i blk hb
 split
 ·rename_i c n f hj
  split
  ·rename_i blk2 hcc hc
   split
   ·rename_i hr
    have hne : b ≠ c := by
     simp only [Bool.and_eq_true, Bool.not_eq_true'] at hcc
     intro e
     subst e
     simp at hcc
    exact (prepPack (P := P) (hp := s.hp) (b := b) (c := c) (pr := blk.1.take j) (po := blk.1.drop (j + 1)) (n := n) (f := f) (T := blk.2) (E := blk2.2) (l2 := blk2.1) hne (by rw [hb, ← take_drop_at hj]) (by rw [hc]) hr).weakV
   ·exact .refl s
  ·exact .refl s
 ·rename_i c _ hj
  split
  ·rename_i E hn _
   exact (prepNil (P := P) (hp := s.hp) (b := b) (c := c) (pr := blk.1.take j) (po := blk.1.drop (j + 1)) (T := blk.2) (E := E) hn (by rw [hb, ← take_drop_at hj])).weakV
  ·exact .refl s
 ·exact .refl s
theorem packL_ok (ow : OwnT) (roots : List Nat) : ∀ (k : Nat) (l : List (Nat × Nat × Bool)) (s : St), WeakV P m s (packL ow m roots k l s) id
 | 0, _, s => .refl s
 | _ + 1, [], s => .refl s
 | k + 1, (b, j, first) :: t, s => by
  unfold packL
  split
  ·split
   ·exact packL_ok ow roots k _ s
   ·exact (packAt_ok ow roots b j s).trans' (packL_ok ow roots k t _)
  ·exact (packAt_ok ow roots b j s).trans' (packL_ok ow roots k t _)
end
def roomTm : List Nat → St → St
 | [], s => s
 | t :: ts, s => match s.tm.get t with
  | .sl b o n true => roomTm ts ⟨s.tm.put t (.sl b o n false), s.hp, s.wr⟩
  | _ => roomTm ts s
def V.noRoom : V → Bool
 | .dsl 0 true _ => true
 | .lit (.slice none 0 0) => true
 | _ => false
def nilTm : List (Nat × TypeId) → St → St
 | [], s => s
 | (t, E) :: ts, s => match (s.tm.get t).noRoom with
  | true => nilTm ts ⟨s.tm.put t (.sl s.hp.length 0 0 false), s.hp ++ [some ([], E)], s.wr⟩
  | false => nilTm ts s
def packs (ow : OwnT) (m : Nat) (roots : List Nat) (s : St) : St :=
 packL ow m roots 10000 (((reach s.hp 100000 roots (List.range m)).filter fun b => Nat.ble m b || s.wr.contains b).flatMap fun b => places s.hp b) s
def idsO (ow : OwnT) (m : Nat) (roots : List Nat) (s : St) : List Nat :=
 (List.range m ++ (reachO ow s.hp 100000 (roots ++ ((List.range m).flatMap fun b => match s.hp[b]? with | some (some blk) => ownRefs ow blk | _ => [])) []).filter fun b => Nat.ble m b).eraseDups
def packF (P : Program) (ow : Option OwnT) (m : Nat) (keep : List Nat) (v : V) (s : St) : V → V := match ow with
 | some ow => match permOK m (idsO ow m (v.refs ++ keep.flatMap fun i => (s.tm.get i).refs) s) with
  | true => frz P s.hp (idsO ow m (v.refs ++ keep.flatMap fun i => (s.tm.get i).refs) s) m 100
  | false => id
 | none => id
def packO (P : Program) (ow : Option OwnT) (m : Nat) (keep : List Nat) (v : V) (s : St) : St := match ow with
 | some ow => match permOK m (idsO ow m (v.refs ++ keep.flatMap fun i => (s.tm.get i).refs) s) with
  | true =>
   packs ow m ((frz P s.hp (idsO ow m (v.refs ++ keep.flatMap fun i => (s.tm.get i).refs) s) m 100 v).refs ++ keep.flatMap fun i => ((normSt P m keep (idsO ow m (v.refs ++ keep.flatMap fun i => (s.tm.get i).refs) s) s).tm.get i).refs)
    (normSt P m keep (idsO ow m (v.refs ++ keep.flatMap fun i => (s.tm.get i).refs) s) s)
  | false => s
 | none => s
def prepK (P : Program) (m : Nat) (k : Kp) (s : St) : St := packO P k.pk m k.keep .nilp (nilTm k.nils (roomTm k.rooms s))
def normS0 (P : Program) (m : Nat) (k : Kp) (s : St) : St := wrS m k.wr (sealAll m (k.seals m s) (normSt P m k.keep (k.ids m s) s))
def normS (P : Program) (m : Nat) (k : Kp) (s : St) : St := normS0 P m k (prepK P m k s)
def permS (P : Program) (m : Nat) (k : Kp) (s : St) : Bool := permOK m (k.ids m (prepK P m k s))
section
variable {P : Program} {m : Nat}
theorem prepPhantom {hp : Hp} (E : TypeId) : PrepOK P hp (hp ++ [some ([], E)]) [] := by
 refine .of (.new hp _ (by simp)) fun {I μ w} pre => ?_
 have hfresh : μ hp.length = none := pre.fresh _ (Nat.le_refl _) (by simp)
 have hat : ∀ c blk, (hp ++ [some (([] : List V), E)])[c]? = some (some blk) → hp.length ≤ c → c = hp.length ∧ blk = ([], E) := by
  intro c blk h hc
  rcases app_at h with ⟨h1, _⟩ | h
  ·omega
  ·exact h
 have hno : ∀ k, ¬ (μ.setFt hp.length []).own hp.length k := by
  rintro k (hk | hk)
  ·have hk' : μ hp.length = some k := hk
   rw [hfresh] at hk'; cases hk'
  ·rw [Mu.setFt_ft] at hk; cases hk
 refine ⟨μ.setFt hp.length [], .refl _, fun _ h => .inl h, .refl _ _, Mu.setFt_le _ _, fun _ _ h => .inl h, fun c _ hn => Mu.setFt_fne _ _ (by rintro rfl; exact hn ⟨Nat.le_refl _, by simp⟩), fun c hc blk h => ?_, fun c hc blk h g hg => ?_, fun c d b1 b2 g hne hc hd h1 h2 g1 g2 => ?_⟩
 ·rcases hc with hc | hc
  ·cases hc
  ·obtain ⟨rfl, rfl⟩ := hat c blk h hc
   exact .inr (.inl ⟨hfresh, by rw [Mu.setFt_ft]⟩)
 ·rcases hc with hc | hc
  ·obtain ⟨rfl, rfl⟩ := hat c blk h hc
   exact (hno g hg).elim
  ·cases hc
 ·rcases hc with hc | hc
  ·cases hc
  ·obtain ⟨rfl, _⟩ := hat c b1 h1 hc
   exact (hno g g1).elim
theorem putTm_ok {s : St} {t : Nat} {v : V} (h : ∀ {I : Nat → Prop} {μ : Mu} {w : World} {u : Value}, V.R P I μ w (s.tm.get t) u → V.R P I μ w v u) : WeakV P m s ⟨s.tm.put t v, s.hp, s.wr⟩ id := by
 refine ⟨fun hp0 e C => ⟨C.len, C.frame, C.alive⟩, fun {hp0 I0 μ0 w0} e {a w Im μ} C => ⟨Im, μ, ⟨fun i => ?_, C.size, C.defers, C.holds, C.inj, C.dom, C.dom0, C.ftd, C.evo, C.le, C.prov, C.len, C.frame, C.alive, C.wal, C.isub, C.igrow, C.ilt, C.ent⟩, fun _ _ h => h⟩⟩
 show V.R P Im μ w ((s.tm.put t v).get i) _
 by_cases hi : t = i
 ·subst hi
  rcases s.tm.get_eq t v with h2 | h2
  ·rw [h2.1]; exact h (C.tm t)
  ·rw [h2]; simp [V.R]
 ·rw [s.tm.get_ne v hi]; exact C.tm i
theorem roomTm_ok : ∀ (l : List Nat) (s : St), WeakV P m s (roomTm l s) id
 | [], s => .refl s
 | t :: ts, s => by
  unfold roomTm
  split
  ·rename_i b o n ht
   refine (putTm_ok (fun {I μ w u} h => ?_)).trans' (roomTm_ok ts _)
   rw [ht] at h
   simp only [V.R] at h ⊢
   rcases h with ⟨g, cap, e, N, i, q1, q2, q3, q4, _, q5⟩ | h
   ·exact .inl ⟨g, cap, e, N, i, q1, q2, q3, q4, by simp, q5⟩
   ·exact .inr h
  ·exact roomTm_ok ts s
theorem noRoom_R {I : Nat → Prop} {μ : Mu} {w : World} {c : V} {u : Value} (h : c.noRoom = true) (hR : V.R P I μ w c u) : Nilish u := by
 refine nilish_R (P := P) (I := I) (μ := μ) (w := w) (c := c) ?_ hR
 unfold V.noRoom at h
 split at h
 ·rfl
 ·rfl
 ·cases h
theorem nilTm_ok : ∀ (l : List (Nat × TypeId)) (s : St), WeakV P m s (nilTm l s) id
 | [], s => .refl s
 | (t, E) :: ts, s => by
  unfold nilTm
  split
  ·rename_i ht
   have h1 := (prepPhantom (P := P) (hp := s.hp) E).weakV (m := m) (s := s)
   rw [List.append_nil] at h1
   have h2 : WeakV P m (⟨s.tm, s.hp ++ [some ([], E)], s.wr⟩ : St) ⟨s.tm.put t (.sl s.hp.length 0 0 false), s.hp ++ [some ([], E)], s.wr⟩ id := putTm_ok (fun {I μ w u} h => by
    simp only [V.R]
    exact .inr ⟨trivial, trivial, noRoom_R ht h⟩)
   exact (h1.trans' h2).trans' (nilTm_ok ts _)
  ·exact nilTm_ok ts s
theorem packO_ok (ow : Option OwnT) (keep : List Nat) (v : V) (s : St) : WeakV P m s (packO P ow m keep v s) (packF P ow m keep v s) := by
 unfold packO packF
 split
 ·split
  ·rename_i hp
   have h1 := norm_weakV (P := P) (m := m) (keep := keep) (s := s) hp
   exact h1.trans (packL_ok (P := P) (m := m) _ _ _ _ _)
  ·exact .refl s
 ·exact .refl s
theorem prepK_ok (k : Kp) (s : St) : ∃ f, WeakV P m s (prepK P m k s) f := ⟨_, ((roomTm_ok _ _).trans' (nilTm_ok _ _)).trans (packO_ok _ _ _ _)⟩
theorem normS_weak {k : Kp} {s : St} (hp : permS P m k s = true) : Weak P m s (normS P m k s) := (prepK_ok k s).choose_spec.weak.trans (((norm_weak hp).trans (sealAll_weak _ _)).trans wrS_same.weak)
end
end Go.Proofs.YtfncaghjfgnnhaaGreatDoor

namespace Go.Proofs.YtfncaghjfgnnhaaGreatDoor
open Go.RowKit
set_option maxRecDepth 100000
def All : List Prop → Prop
 | [] => True
 | p :: ps => p ∧ All ps
theorem All.append : ∀ {ps qs : List Prop}, All (ps ++ qs) → All ps ∧ All qs
 | [], _, h => ⟨trivial, h⟩
 | _ :: _, _, h => ⟨⟨h.1, (All.append h.2).1⟩, (All.append h.2).2⟩
section
variable {P : Program}
structure SoundC (P : Program) (m : Nat) (c : Code) (s : St) (ex : Ex) (s' : St) : Prop where
 st : ∀ hp0 : Hp, hp0.length = m → SR hp0 s → SR hp0 s'
 run : ∀ {hp0 : Hp} {I0 : Nat → Prop} {μ0 : Mu} {w0 : World}, hp0.length = m → ∀ {a : Act} {w : World} {Im : Nat → Prop} {μ : Mu}, CI P hp0 I0 μ0 w0 s a w Im μ →
  ∀ {Q : Exit → Act → World → Prop}, (∀ a' w' μ' Im', CI P hp0 I0 μ0 w0 s' a' w' Im' μ' → Q ex.toExit a' w') → c.wp P Q a w
theorem SoundC.skip {m : Nat} {s : St} : SoundC P m .skip s .normal s := ⟨fun _ _ h => h, fun _ _ _ _ _ C _ hQ => wp_skip (hQ _ _ _ _ C)⟩
theorem SoundC.exit {m id : Nat} {s : St} : SoundC P m (.exit id) s (.exit id) s := ⟨fun _ _ h => h, fun _ _ _ _ _ C _ hQ => wp_exit (hQ _ _ _ _ C)⟩
theorem SoundC.ret {m : Nat} {s : St} : SoundC P m .ret s .ret s := ⟨fun _ _ h => h, fun _ _ _ _ _ C _ hQ => wp_ret (hQ _ _ _ _ C)⟩
theorem SoundC.region (hm : P.follows .mixedOrders = true) (hn : Named P) {ops : Array Oper} {m id : Nat} {draw : Bool} {s s' : St} {l : List Rec} (hl : TraceR P ops ops.toList s l s') (hd : draw = true → drawOK ops l s' = true) : SoundC P m (.region id ops draw) s .normal s' :=
 ⟨fun _ _ h => region_static hl h, fun _ _ _ _ _ C _ hQ => region_sound hm hn hl hd C hQ⟩
theorem SoundC.seq {m : Nat} {x y : Code} {s s1 s2 : St} {ex : Ex} (h : SoundC P m x s .normal s1) (k : SoundC P m y s1 ex s2) : SoundC P m (.seq x y) s ex s2 :=
 ⟨fun hp0 e hs => k.st hp0 e (h.st hp0 e hs), fun e _ _ _ _ C _ hQ => wp_seq (h.run e C fun _ _ _ _ C' => k.run e C' hQ)⟩
theorem SoundC.seq_out {m : Nat} {x y : Code} {s s1 : St} {ex : Ex} (h : SoundC P m x s ex s1) (hne : ex ≠ .normal) : SoundC P m (.seq x y) s ex s1 :=
 ⟨h.st, fun e _ _ _ _ C _ hQ => wp_seq (h.run e C fun a' w' μ' Im' C' => by
  have := hQ a' w' μ' Im' C'
  cases ex with
  | normal => exact absurd rfl hne
  | exit _ => exact this
  | ret => exact this)⟩
theorem SoundC.block_in {m id : Nat} {c : Code} {s s1 : St} (h : SoundC P m c s (.exit id) s1) : SoundC P m (.block id c) s .normal s1 :=
 ⟨h.st, fun e _ _ _ _ C _ hQ => wp_block (h.run e C fun a' w' μ' Im' C' => by
  simp only [Ex.toExit, Exit.inBlock, if_true]; exact hQ a' w' μ' Im' C')⟩
theorem SoundC.block_out {m id : Nat} {c : Code} {s s1 : St} {ex : Ex} (h : SoundC P m c s ex s1) (hne : ex ≠ .exit id) : SoundC P m (.block id c) s ex s1 :=
 ⟨h.st, fun e _ _ _ _ C _ hQ => wp_block (h.run e C fun a' w' μ' Im' C' => by
  have := hQ a' w' μ' Im' C'
  cases ex with
  | normal => exact this
  | exit i =>
   simp only [Ex.toExit, Exit.inBlock]
   rw [if_neg (fun e => hne (by rw [e]))]
   exact this
  | ret => exact this)⟩
theorem SoundC.pre {m : Nat} {c : Code} {s s0 s' : St} {ex : Ex} (h : Weak P m s s0) (k : SoundC P m c s0 ex s') : SoundC P m c s ex s' :=
 ⟨fun hp0 e hs => k.st hp0 e (h.st hp0 e hs), fun e _ _ _ _ C _ hQ => by
  obtain ⟨_, _, C'⟩ := h.run e C
  exact k.run e C' hQ⟩
theorem SoundC.post {m : Nat} {c : Code} {s s0 s' : St} {ex : Ex} (k : SoundC P m c s ex s0) (h : Weak P m s0 s') : SoundC P m c s ex s' :=
 ⟨fun hp0 e hs => h.st hp0 e (k.st hp0 e hs), fun e _ _ _ _ C _ hQ => k.run e C fun a' w' _ _ C' => by
  obtain ⟨_, _, C''⟩ := h.run e C'
  exact hQ a' w' _ _ C''⟩
inductive LoopTo (P : Program) (m : Nat) (body : Code) : St → Ex → St → Prop where
 | done {s s' : St} {ex : Ex} (h : SoundC P m body s ex s') (hne : ex ≠ .normal) : LoopTo P m body s ex s'
 | step {s s1 s' : St} {ex : Ex} (h : SoundC P m body s .normal s1) (k : LoopTo P m body s1 ex s') : LoopTo P m body s ex s'
theorem SoundC.loopTo {m : Nat} {body : Code} {s s' : St} {ex : Ex} (h : LoopTo P m body s ex s') : SoundC P m (.loop body) s ex s' := by
 have key : ∃ N, (∀ hp0 : Hp, hp0.length = m → SR hp0 s → SR hp0 s') ∧
   ∀ {hp0 : Hp} {I0 : Nat → Prop} {μ0 : Mu} {w0 : World}, hp0.length = m → ∀ {a : Act} {w : World} {Im : Nat → Prop} {μ : Mu}, CI P hp0 I0 μ0 w0 s a w Im μ →
    ∀ {Q : Exit → Act → World → Prop}, (∀ a' w' μ' Im', CI P hp0 I0 μ0 w0 s' a' w' Im' μ' → Q ex.toExit a' w') → Code.rounds P body Q N a w := by
  induction h with
  | @done s s' ex h hne =>
   refine ⟨1, h.st, fun e _ _ _ _ C Q hQ => ?_⟩
   rw [rounds_succ]
   refine h.run e C fun a' w' μ' Im' C' => ?_
   have := hQ a' w' μ' Im' C'
   cases ex with
   | normal => exact absurd rfl hne
   | exit i => exact this
   | ret => exact this
  | @step s s1 s' ex h k ih =>
   obtain ⟨N, h1, h2⟩ := ih
   refine ⟨N + 1, fun hp0 e hs => h1 hp0 e (h.st hp0 e hs), fun e _ _ _ _ C Q hQ => ?_⟩
   rw [rounds_succ]
   exact h.run e C fun a' w' μ' Im' C' => h2 e C' hQ
 obtain ⟨N, h1, h2⟩ := key
 exact ⟨h1, fun e _ _ _ _ C _ hQ => wp_loop_rounds N (h2 e C hQ)⟩
end
def bodyOf (P : Program) (f : FuncId) : Code := match P.funcs[f]? with
 | some fn => match fn.body with
  | some c => c
  | none => .skip
 | none => .skip
def findBlock (id : Nat) : Code → Option Code
 | .seq x y => match findBlock id x with
  | some c => some c
  | none => findBlock id y
 | .cond _ x y => match findBlock id x with
  | some c => some c
  | none => findBlock id y
 | .block i c => if Nat.beq i id then some c else findBlock id c
 | .loop c => findBlock id c
 | _ => none
def lp (P : Program) (f : FuncId) (id : Nat) : Code := match findBlock id (bodyOf P f) with
 | some (.loop c) => c
 | _ => .skip
def blk (P : Program) (f : FuncId) (id : Nat) : Code := match findBlock id (bodyOf P f) with
 | some c => c
 | _ => .skip
def outEx (id : Nat) : Ex → Ex
 | .exit i => if i = id then .normal else .exit i
 | e => e
def namedB (P : Program) : Bool := P.funcs.toList.all fun fn => fn.name != "runtime.NumGoroutine"
theorem named_of {P : Program} (h : namedB P = true) : Named P := by
 intro f fn hf
 have := List.all_eq_true.1 h fn (by
  obtain ⟨hlt, e⟩ := Array.getElem?_eq_some_iff.1 hf
  rw [← e]; simp)
 simpa using this
section
variable {P : Program}
theorem SoundC.cond {m : Nat} {c : Operand} {x y : Code} {s s' : St} {ex : Ex} {b : Bool} (hb : evalV s.tm c = .bool b) (h : SoundC P m (if b then x else y) s ex s') : SoundC P m (.cond c x y) s ex s' := by
 refine ⟨h.st, fun {hp0 I0 μ0 w0} e {a w Im μ} C {Q} hQ => ?_⟩
 have hR : V.R P Im μ w (evalV s.tm c) (a.eval c) := by
  cases c with
  | tmp t => exact C.tm t
  | const v => exact R_ofValue v
  | global g => simp [evalV, V.R]
  | func f => simp [evalV, Act.eval, V.R, V.RL]
 rw [hb] at hR
 simp only [V.R] at hR
 cases b with
 | true => exact wp_cond_true hR (h.run e C hQ)
 | false => exact wp_cond_false hR (h.run e C hQ)
theorem SoundC.block {m id : Nat} {c : Code} {s s1 : St} {ex : Ex} (h : SoundC P m c s ex s1) : SoundC P m (.block id c) s (outEx id ex) s1 := by
 cases ex with
 | normal => exact h.block_out (by simp)
 | ret => exact h.block_out (by simp)
 | exit i =>
  simp only [outEx]
  split
  ·rename_i e; subst e; exact h.block_in
  ·rename_i e; exact h.block_out (by simpa using e)
theorem fnOK_of {f : FuncId} {fn : Func} {c : Code} {vs : List V} {hp : Hp} {ex : Ex} {s : St} {v : List V} {r : Ret} (hfn : P.funcs[f]? = some fn) (hc : fn.body = some c)
  (h : SoundC P hp.length c ⟨Tm.start (vs.length + (fn.ntmps - vs.length)) vs, hp, []⟩ ex s) (hex : ex = .normal ∨ ex = .ret) (hres : evResultL P s.hp s.tm fn.results.toList = some v)
  (ht : SR hp s → FnTidy hp r)
  (hg : ∀ {I Im : Nat → Prop} {μ μ' : Mu} {w w' : World} {a : Act} {val : Value}, CI P hp I μ w s a w' Im μ' → V.R P Im μ' w' (oneOf v) val → ∃ μr Ir, V.R P Ir μr w' r.v val ∧ Good P I Ir μ μr w w' hp r.hp (List.range hp.length) r.wr) : FnOK P f vs hp r := by
 have hst : SR hp s := h.st hp rfl ⟨Nat.le_refl _, fun _ _ _ => rfl, fun _ _ h => h⟩
 refine ⟨ht hst, fun I w μ vals hvals pre hdom => ?_⟩
 have hh : ∀ b blk, hp[b]? = some (some blk) → Holds P I μ w b blk := fun b blk hb => pre.holds b (by simpa using at_lt hb) blk hb
 have hinj : ∀ b c blk blk' g, b ≠ c → hp[b]? = some (some blk) → hp[c]? = some (some blk') → μ.own b g → μ.own c g → False := fun b c b1 b2 g hne hb hc => pre.inj b (by simpa using at_lt hb) c (by simpa using at_lt hc) b1 b2 g hne hb hc
 have hvl := hvals.length
 simp at hvl
 have C0 : CI P hp I μ w ⟨Tm.start (vs.length + (fn.ntmps - vs.length)) vs, hp, []⟩ { tmps := vals ++ Array.replicate (fn.ntmps - vals.size) undef, defers := [] } w I μ := by
  refine ⟨fun t => ?_, by simp [hvl, Tm.start, Tm.fill_n], rfl, hh, hinj, hdom, fun b g hg _ => hg, fun _ _ _ => rfl, .refl _ _, .refl _, fun b hb blk hblk => ?_, Nat.le_refl _, fun _ _ _ => rfl, fun _ _ h => h, by simp, .refl _, fun k h => .inl h, pre.ilt, ⟨hh, hinj, hdom⟩⟩
  ·rcases Tm.start_get (vs.length + (fn.ntmps - vs.length)) vs t with e | e
   ·show V.R P I μ w ((Tm.start (vs.length + (fn.ntmps - vs.length)) vs).get t) _
    rw [e]; simp [V.R]
   ·have ht : t < vs.length := (List.getElem?_eq_some_iff.1 e).1
    obtain ⟨u, hu, hR⟩ := hvals.get e
    rw [Array.getElem?_toList] at hu
    rw [Array.getD_eq_getD_getElem?, Array.getElem?_append, if_pos (by omega), hu]
    exact hR
  ·have := at_lt (hp := hp) hblk
   rcases hb with hb | hb
   ·omega
   ·cases hb
 refine calls_of_wp hfn hc ?_
 refine h.run rfl C0 fun a' w' μ' Im' C => ?_
 obtain ⟨val, hr, hR⟩ := results_sound (fn := fn) C.tm C.holds C.ilt C.inj hres
 obtain ⟨μr, Ir, hR', hG⟩ := hg C hR
 rcases hex with rfl | rfl
 ·exact ⟨C.defers, val, hr, val, μr, Ir, rfl, hR', hG⟩
 ·exact ⟨C.defers, val, hr, val, μr, Ir, rfl, hR', hG⟩
theorem fnOK_code {f : FuncId} {fn : Func} {c : Code} {vs : List V} {hp : Hp} {ex : Ex} {s : St} {v : List V} {r : Ret} (hfn : P.funcs[f]? = some fn) (hc : fn.body = some c)
  (h : SoundC P hp.length c ⟨Tm.start (vs.length + (fn.ntmps - vs.length)) vs, hp, []⟩ ex s) (hex : ex = .normal ∨ ex = .ret) (hres : evResultL P s.hp s.tm fn.results.toList = some v)
  {s' : St} {g : V → V} (hw : WeakV P hp.length s s' g) {ids seals : List Nat} (hids : permOK hp.length ids = true) (hr : gc P hp.length ids seals (g (oneOf v)) s' = r) : FnOK P f vs hp r := by
 subst hr
 refine fnOK_of hfn hc h hex hres (fun hst => gc_tidy hids (hw.st hp rfl hst)) fun C hR => ?_
 obtain ⟨Im2, μ2, C2, hV⟩ := hw.run rfl C
 exact gc_sound hids C2 (hV _ _ hR)
end
end Go.Proofs.YtfncaghjfgnnhaaGreatDoor

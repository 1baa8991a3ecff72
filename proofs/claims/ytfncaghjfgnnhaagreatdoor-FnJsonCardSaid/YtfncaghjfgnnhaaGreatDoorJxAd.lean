/-
  The small evaluator: what is known of blocks, said in another way.
  The small evaluator: states said in another way.
  The small evaluator: what a piece of code comes to; loops; functions.
  The small evaluator at inputs that are not known: what an operation comes to, and what is owed for it.
  The small evaluator at inputs that are not known: cells within rows; slices of their own.
-/
import Derived.Test.YtfncaghjfgnnhaaGreatDoorJxAc
import Derived.KernelRfl
namespace Go.Proofs.YtfncaghjfgnnhaaGreatDoor
open Go.RowKit

structure PrepOK (P : Program) (hp hp1 : Hp) (bs : List Nat) : Prop where
  tidy : Tidy hp hp1 bs bs
  run : ∀ {I : Nat → Prop} {μ : Mu} {w : World} {acc : List Nat}, Pre P I μ w hp acc hp1.length → (∀ b ∈ bs, b ∈ acc) → ∃ μ1, Good P I I μ μ1 w w hp hp1 acc bs

section
variable {P : Program} {hp hp1 hp2 : Hp} {bs bs1 bs2 : List Nat}

theorem Good.back {I I' : Nat → Prop} {μ μ1 : Mu} {w w1 : World} {acc wr : List Nat} (G : Good P I I' μ μ1 w w1 hp hp1 acc wr) (hwr : ∀ b ∈ wr, b < hp.length) (ht : ∀ b, b < hp.length → b ∉ wr → hp1[b]? = hp[b]?) {c : Nat} {blk : Blk} (hc : hp1[c]? = some (some blk)) {g : Nat} (hg : μ1.own c g) :
    w.heap.size ≤ g ∨ ∃ d, (d ∈ wr ∨ d = c) ∧ d < hp.length ∧ μ.own d g ∧ ∃ blk, hp[d]? = some (some blk) := by
  by_cases h : hp.length ≤ c ∨ c ∈ wr
  · rcases G.prov c h blk hc g hg with h | ⟨d, h1, h2, h3⟩
    · exact .inl h
    · exact .inr ⟨d, .inl h1, hwr d h1, h2, h3⟩
  · simp only [not_or, Nat.not_le] at h
    refine .inr ⟨c, .inr rfl, h.1, ?_, blk, by rw [← ht c h.1 h.2]; exact hc⟩
    rcases hg with hg | hg
    · rcases G.dom c g hg with h' | ⟨h', _⟩
      · exact .inl h'
      · omega
    · rw [G.ftd c h.2 (by omega)] at hg; exact .inr hg

def lows (hp : Hp) (l : List Nat) : List Nat := l.filter fun b => decide (b < hp.length)
theorem mem_lows {b : Nat} {l : List Nat} : b ∈ lows hp l ↔ b ∈ l ∧ b < hp.length := by simp [lows]

theorem Tidy.comp {acc2 wr2 : List Nat} (h : Tidy hp hp1 bs bs) (k : Tidy hp1 hp2 acc2 wr2) : Tidy hp hp2 (lows hp (bs ++ acc2)) (lows hp (bs ++ wr2)) := by
  refine ⟨Nat.le_trans h.len k.len, fun b hb hn => ?_, fun b hb => ?_, fun b hb => (mem_lows.1 hb).2, fun b hb => ?_⟩
  · have h1 : b ∉ bs := fun h1 => hn (mem_lows.2 ⟨by simp [h1], hb⟩)
    have h2 : b ∉ wr2 := fun h1 => hn (mem_lows.2 ⟨by simp [h1], hb⟩)
    rw [k.frame b (Nat.lt_of_lt_of_le hb h.len) h2, h.frame b hb h1]
  · obtain ⟨h1, h2⟩ := mem_lows.1 hb
    refine mem_lows.2 ⟨?_, h2⟩
    rcases List.mem_append.1 h1 with h1 | h1
    · exact List.mem_append.2 (.inl h1)
    · exact List.mem_append.2 (.inr (k.wracc b h1))
  · obtain ⟨h1, h2⟩ := mem_lows.1 hb
    by_cases h3 : b ∈ bs
    · exact h.walive b h3
    · rcases List.mem_append.1 h1 with h1 | h1
      · exact absurd h1 h3
      · obtain ⟨blk, hblk⟩ := k.walive b h1
        exact ⟨blk, by rw [← h.frame b h2 h3]; exact hblk⟩

theorem Good.comp {I I' : Nat → Prop} {μ μ1 μ2 : Mu} {w w2 : World} {acc acc2 accT wr2 : List Nat} {top : Nat} (t1 : Tidy hp hp1 bs bs) (pre : Pre P I μ w hp acc top) (G1 : Good P I I μ μ1 w w hp hp1 acc bs) (t2 : Tidy hp1 hp2 accT wr2) (hw2 : ∀ b ∈ wr2, b ∈ acc2)
    (ha : ∀ b, b < hp.length → b ∈ acc → b ∈ acc2 ∨ ∀ blk, hp1[b]? ≠ some (some blk)) (hn : ∀ b, hp.length ≤ b → b < hp1.length → b ∈ acc2) (hb : ∀ b ∈ bs, b ∈ acc) (hwa : ∀ b ∈ wr2, b < hp.length → b ∈ acc)
    (G2 : Good P I I' μ1 μ2 w w2 hp1 hp2 acc2 wr2) : Good P I I' μ μ2 w w2 hp hp2 acc (lows hp (bs ++ wr2)) := by
  have hh : ∀ b, (b ∈ acc ∨ hp.length ≤ b) → ∀ blk, hp1[b]? = some (some blk) → b ∈ acc2 ∨ hp1.length ≤ b := by
    intro b h blk hblk
    have hl := (List.getElem?_eq_some_iff.1 hblk).1
    rcases Nat.lt_or_ge b hp.length with h1 | h1
    · rcases h with h | h
      · rcases ha b h1 h with h2 | h2
        · exact .inl h2
        · exact absurd hblk (h2 blk)
      · omega
    · exact .inl (hn b h1 hl)
  have back : ∀ c, c ∈ wr2 → ∀ g, μ1.own c g → (∃ blk, hp1[c]? = some (some blk)) → ∃ d ∈ lows hp (bs ++ wr2), μ.own d g ∧ ∃ blk, hp[d]? = some (some blk) := by
    rintro c hc g hg ⟨blk, hblk⟩
    have hlt : g < w.heap.size := by
      have hcc : c ∈ acc ∨ hp.length ≤ c := by
        rcases Nat.lt_or_ge c hp.length with h | h
        · exact .inl (hwa c hc h)
        · exact .inr h
      exact (G1.holds c hcc blk hblk).lt hg
    rcases G1.back (fun b hb' => t1.accb b hb') t1.frame hblk hg with h | ⟨d, h1, h2, h3, h4⟩
    · omega
    · refine ⟨d, mem_lows.2 ⟨?_, h2⟩, h3, h4⟩
      rcases h1 with h1 | rfl
      · simp [h1]
      · simp [hc]
  have dead : ∀ b, b < hp1.length → b ∉ wr2 → ∀ blk, hp2[b]? = some (some blk) → hp1[b]? = some (some blk) := by
    intro b h1 h2 blk h3; rw [← t2.frame b h1 h2]; exact h3
  have hh2 : ∀ b, (b ∈ acc ∨ hp.length ≤ b) → ∀ blk, hp2[b]? = some (some blk) → b ∈ acc2 ∨ hp1.length ≤ b := by
    intro b h blk hblk
    rcases Nat.lt_or_ge b hp1.length with h1 | h1
    · by_cases h2 : b ∈ wr2
      · exact .inl (hw2 b h2)
      · exact hh b h blk (dead b h1 h2 blk hblk)
    · exact .inr h1
  refine ⟨G2.isub, fun k hk => ?_, ?_, G1.le.trans G2.le, fun b g h => ?_, fun b h1 h2 => ?_, fun b h blk hblk => G2.holds b (hh2 b h blk hblk) blk hblk, fun b h blk hblk g hg => ?_, fun b c b1 b2 g hne h1 h2 h3 h4 => G2.inj b c b1 b2 g hne (hh2 b h1 b1 h3) (hh2 c h2 b2 h4) h3 h4⟩
  · rcases G2.igrow k hk with h | h | ⟨c, h1, h2, h3⟩
    · exact .inl h
    · exact .inr (.inl h)
    · exact .inr (.inr (back c h1 k h2 h3))
  · refine G2.evo.mono fun k ⟨c, h1, h2⟩ => ?_
    obtain ⟨d, h3, h4, _⟩ := back c h1 k h2 (t2.walive c h1)
    exact ⟨d, h3, h4⟩
  · rcases G2.dom b g h with h | ⟨h1, h2⟩
    · rcases G1.dom b g h with h | ⟨h1, h2⟩
      · exact .inl h
      · exact .inr ⟨h1, Nat.lt_of_lt_of_le h2 t2.len⟩
    · exact .inr ⟨Nat.le_trans t1.len h1, h2⟩
  · have h3 : b ∉ wr2 := by
      intro h3
      rcases Nat.lt_or_ge b hp.length with h4 | h4
      · exact h1 (mem_lows.2 ⟨by simp [h3], h4⟩)
      · exact h2 ⟨h4, Nat.lt_of_lt_of_le (t2.accb b (t2.wracc b h3)) t2.len⟩
    have h4 : b ∉ bs := fun h4 => h1 (mem_lows.2 ⟨by simp [h4], t1.accb b h4⟩)
    rw [G2.ftd b h3 (fun h => h2 ⟨Nat.le_trans t1.len h.1, h.2⟩), G1.ftd b h4 (fun h => h2 ⟨h.1, Nat.lt_of_lt_of_le h.2 t2.len⟩)]
  · by_cases h1 : hp1.length ≤ b ∨ b ∈ wr2
    · rcases G2.prov b h1 blk hblk g hg with h | ⟨c, h2, h3, h4⟩
      · exact .inl h
      · exact .inr (back c h2 g h3 h4)
    · simp only [not_or, Nat.not_le] at h1
      have hblk1 := dead b h1.1 h1.2 blk hblk
      have hg1 : μ1.own b g := by
        rcases hg with hg | hg
        · rcases G2.dom b g hg with h | ⟨h, _⟩
          · exact .inl h
          · omega
        · rw [G2.ftd b h1.2 (by omega)] at hg; exact .inr hg
      have hb' : hp.length ≤ b ∨ b ∈ bs := by
        rcases h with h | h
        · exact .inl h
        · rcases List.mem_append.1 (mem_lows.1 h).1 with h | h
          · exact .inr h
          · exact absurd h h1.2
      rcases G1.prov b hb' blk hblk1 g hg1 with h | ⟨c, h2, h3, h4⟩
      · exact .inl h
      · exact .inr ⟨c, mem_lows.2 ⟨by simp [h2], t1.accb c h2⟩, h3, h4⟩

theorem Pre.after {I : Nat → Prop} {μ μ1 : Mu} {w : World} {acc acc2 : List Nat} {top : Nat} (pre : Pre P I μ w hp acc top) (t1 : Tidy hp hp1 bs bs) (G : Good P I I μ μ1 w w hp hp1 acc bs) (ha : ∀ b ∈ acc2, b < hp.length → b ∈ acc) : Pre P I μ1 w hp1 acc2 top := by
  have hh : ∀ b ∈ acc2, b ∈ acc ∨ hp.length ≤ b := by
    intro b hb
    rcases Nat.lt_or_ge b hp.length with h | h
    · exact .inl (ha b hb h)
    · exact .inr h
  refine ⟨pre.ilt, fun b hb blk hblk => G.holds b (hh b hb) blk hblk, fun b hb c hc b1 b2 g hne h1 h2 g1 g2 => G.inj b c b1 b2 g hne (hh b hb) (hh c hc) h1 h2 g1 g2, fun b h1 h2 => ?_⟩
  cases h : μ1 b with
  | none => rfl
  | some g =>
    rcases G.dom b g h with h | ⟨_, h3⟩
    · rw [pre.fresh b (Nat.le_trans t1.len h1) h2] at h; cases h
    · omega

theorem Good.frame {I I' : Nat → Prop} {μ μ' : Mu} {w w' : World} {acc acc' accT wr : List Nat} {top : Nat} (pre : Pre P I μ w hp acc' top) (hsub : ∀ b ∈ acc, b ∈ acc') (t : Tidy hp hp1 accT wr) (hw : ∀ b ∈ wr, b ∈ acc) (G : Good P I I' μ μ' w w' hp hp1 acc wr) : Good P I I' μ μ' w w' hp hp1 acc' wr := by
  have hlt : ∀ b ∈ wr, b < hp.length := fun b hb => by
    obtain ⟨blk, h⟩ := t.walive b hb
    exact (List.getElem?_eq_some_iff.1 h).1
  have old : ∀ b, b ∈ acc' → ¬ (b ∈ acc ∨ hp.length ≤ b) → ∀ blk, hp1[b]? = some (some blk) → hp[b]? = some (some blk) ∧ (∀ g, μ'.own b g → μ.own b g) := by
    intro b hb hn blk hblk
    simp only [not_or, Nat.not_le] at hn
    have hnw : b ∉ wr := fun h => hn.1 (hw b h)
    refine ⟨by rw [← t.frame b hn.2 hnw]; exact hblk, fun g hg => ?_⟩
    rcases hg with hg | hg
    · rcases G.dom b g hg with h | ⟨h, _⟩
      · exact .inl h
      · omega
    · rw [G.ftd b hnw (by omega)] at hg; exact .inr hg
  have other : ∀ b c blk blk' g, b ∈ acc' → ¬ (b ∈ acc ∨ hp.length ≤ b) → (c ∈ acc ∨ hp.length ≤ c) → hp1[b]? = some (some blk) → hp1[c]? = some (some blk') → μ'.own b g → μ'.own c g → False := by
    intro b c blk blk' g hb hn hc h1 h2 g1 g2
    obtain ⟨h1', hown⟩ := old b hb hn blk h1
    have g1' := hown g g1
    have hbs := (pre.holds b hb blk h1').lt g1'
    simp only [not_or, Nat.not_le] at hn
    rcases G.back hlt t.frame h2 g2 with h | ⟨d, h3, h4, h5, blk'', h6⟩
    · omega
    · have hd : d ∈ acc := by
        rcases h3 with h3 | rfl
        · exact hw d h3
        · rcases hc with hc | hc
          · exact hc
          · omega
      exact pre.inj b hb d (hsub d hd) _ _ g (by rintro rfl; exact hn.1 hd) h1' h6 g1' h5
  refine ⟨G.isub, G.igrow, G.evo, G.le, G.dom, G.ftd, fun b hb blk hblk => ?_, fun b hb => G.prov b hb, fun b c b1 b2 g hne hb hc h1 h2 g1 g2 => ?_⟩
  · by_cases hn : b ∈ acc ∨ hp.length ≤ b
    · exact G.holds b hn blk hblk
    · have hb' : b ∈ acc' := by rcases hb with h | h; exact h; exact absurd (.inr h) hn
      obtain ⟨h1, hown⟩ := old b hb' hn blk hblk
      simp only [not_or, Nat.not_le] at hn
      have hnw : b ∉ wr := fun h => hn.1 (hw b h)
      refine (pre.holds b hb' blk h1).keep G.evo G.isub G.le (fun h0 => ?_) (G.ftd b hnw (by omega)) (fun g hg hx => ?_) (fun g hg hi => ?_)
      · cases hm : μ' b with
        | none => rfl
        | some g =>
          rcases G.dom b g hm with h | ⟨h, _⟩
          · rw [h] at h0; cases h0
          · omega
      · obtain ⟨c, hcw, hcg⟩ := hx
        obtain ⟨blk', hc'⟩ := t.walive c hcw
        exact pre.inj b hb' c (hsub c (hw c hcw)) _ _ g (by rintro rfl; exact hnw hcw) h1 hc' hg hcg
      · rcases G.igrow g hi with h | ⟨h, _⟩ | ⟨c, hcw, hcg, blk', hc'⟩
        · exact (pre.holds b hb' blk h1).nimm hg h
        · have := (pre.holds b hb' blk h1).lt hg; omega
        · exact pre.inj b hb' c (hsub c (hw c hcw)) _ _ g (by rintro rfl; exact hnw hcw) h1 hc' hg hcg
  · by_cases hnb : b ∈ acc ∨ hp.length ≤ b
    · by_cases hnc : c ∈ acc ∨ hp.length ≤ c
      · exact G.inj b c b1 b2 g hne hnb hnc h1 h2 g1 g2
      · have hc' : c ∈ acc' := by rcases hc with h | h; exact h; exact absurd (.inr h) hnc
        exact other c b b2 b1 g hc' hnc hnb h2 h1 g2 g1
    · have hb' : b ∈ acc' := by rcases hb with h | h; exact h; exact absurd (.inr h) hnb
      by_cases hnc : c ∈ acc ∨ hp.length ≤ c
      · exact other b c b1 b2 g hb' hnb hnc h1 h2 g1 g2
      · have hc' : c ∈ acc' := by rcases hc with h | h; exact h; exact absurd (.inr h) hnc
        obtain ⟨h1', o1⟩ := old b hb' hnb b1 h1
        obtain ⟨h2', o2⟩ := old c hc' hnc b2 h2
        exact pre.inj b hb' c hc' _ _ g hne h1' h2' (o1 g g1) (o2 g g2)

theorem Pre.top {I : Nat → Prop} {μ : Mu} {w : World} {acc : List Nat} {top top' : Nat} (pre : Pre P I μ w hp acc top) (h : top' ≤ top) : Pre P I μ w hp acc top' := ⟨pre.ilt, pre.holds, pre.inj, fun b h1 h2 => pre.fresh b h1 (Nat.lt_of_lt_of_le h2 h)⟩
def around (hp hp1 : Hp) (acc : List Nat) : List Nat := acc ++ List.range' hp.length (hp1.length - hp.length)
theorem mem_around {acc : List Nat} {b : Nat} : b ∈ around hp hp1 acc ↔ b ∈ acc ∨ (hp.length ≤ b ∧ b < hp1.length) := by
  unfold around
  rw [List.mem_append, List.mem_range'_1]
  constructor
  · rintro (h | h)
    · exact .inl h
    · exact .inr ⟨h.1, by omega⟩
  · rintro (h | h)
    · exact .inl h
    · exact .inr ⟨h.1, by omega⟩

theorem PrepOK.refl (hp : Hp) : PrepOK P hp hp [] := ⟨.same hp (by simp), fun pre _ => ⟨_, Good.same hp pre⟩⟩
theorem PrepOK.trans (h : PrepOK P hp hp1 bs1) (k : PrepOK P hp1 hp2 bs2) : PrepOK P hp hp2 (lows hp (bs1 ++ bs2)) := by
  refine ⟨h.tidy.comp k.tidy, fun {I μ w acc} pre hb => ?_⟩
  have hb1 : ∀ b ∈ bs1, b ∈ acc := fun b hb1 => hb b (mem_lows.2 ⟨by simp [hb1], h.tidy.accb b hb1⟩)
  obtain ⟨μ1, G1⟩ := h.run (pre.top k.tidy.len) hb1
  have hb2 : ∀ b ∈ bs2, b ∈ around hp hp1 acc := by
    intro b hb2
    rw [mem_around]
    rcases Nat.lt_or_ge b hp.length with h1 | h1
    · exact .inl (hb b (mem_lows.2 ⟨by simp [hb2], h1⟩))
    · exact .inr ⟨h1, k.tidy.accb b hb2⟩
  have pre2 : Pre P I μ1 w hp1 (around hp hp1 acc) hp2.length := pre.after h.tidy G1 fun b hb h1 => by
    rcases mem_around.1 hb with h2 | h2
    · exact h2
    · omega
  obtain ⟨μ2, G2⟩ := k.run pre2 hb2
  exact ⟨μ2, Good.comp h.tidy pre G1 k.tidy hb2 (fun b h1 h2 => .inl (mem_around.2 (.inl h2))) (fun b h1 h2 => mem_around.2 (.inr ⟨h1, h2⟩)) hb1 (fun b h1 h2 => hb b (mem_lows.2 ⟨by simp [h1], h2⟩)) G2⟩

theorem OpOK.prep {e : Operand → V} {op : Op} {out : Out} (h : PrepOK P hp hp1 bs) (k : OpOK P e hp1 op out) : OpOK P e hp op ⟨out.v, out.hp, lows hp (bs ++ out.acc), lows hp (bs ++ out.wr)⟩ := by
  refine ⟨h.tidy.comp k.tidy, fun {I μ w oper a K Q} ho hops pre hK => ?_⟩
  have hb1 : ∀ b ∈ bs, b ∈ lows hp (bs ++ out.acc) := fun b hb1 => mem_lows.2 ⟨by simp [hb1], h.tidy.accb b hb1⟩
  obtain ⟨μ1, G1⟩ := h.run (pre.top k.tidy.len) hb1
  have pre2 : Pre P I μ1 w hp1 (around hp hp1 (lows hp (bs ++ out.acc))) out.hp.length := pre.after h.tidy G1 fun b hb h1 => by
    rcases mem_around.1 hb with h2 | h2
    · exact h2
    · omega
  have hacc : ∀ b ∈ out.acc, b ∈ around hp hp1 (lows hp (bs ++ out.acc)) := by
    intro b hb
    rw [mem_around]
    rcases Nat.lt_or_ge b hp.length with h1 | h1
    · exact .inl (mem_lows.2 ⟨by simp [hb], h1⟩)
    · exact .inr ⟨h1, k.tidy.accb b hb⟩
  have pre3 : Pre P I μ1 w hp1 out.acc out.hp.length := ⟨pre2.ilt, fun b hb => pre2.holds b (hacc b hb), fun b hb c hc => pre2.inj b (hacc b hb) c (hacc c hc), pre2.fresh⟩
  refine k.wp ho (fun x hx => (hops x hx).keep (.refl w (fun _ => False)) (.refl I) G1.le) pre3 fun val w' μ' I' hR G2 => hK val w' μ' I' hR ?_
  have G2' := G2.frame pre2 hacc k.tidy k.tidy.wracc
  exact Good.comp h.tidy pre G1 k.tidy (fun b hb => hacc b (k.tidy.wracc b hb)) (fun b h1 h2 => .inl (mem_around.2 (.inl h2))) (fun b h1 h2 => mem_around.2 (.inr ⟨h1, h2⟩)) hb1 (fun b h1 h2 => mem_lows.2 ⟨by simp [k.tidy.wracc b h1], h2⟩) G2'

theorem PrepOK.of (t : Tidy hp hp1 bs bs) (h : ∀ {I : Nat → Prop} {μ : Mu} {w : World}, Pre P I μ w hp bs hp1.length → ∃ μ1, Good P I I μ μ1 w w hp hp1 bs bs) : PrepOK P hp hp1 bs := by
  refine ⟨t, fun {I μ w acc} pre hb => ?_⟩
  obtain ⟨μ1, G⟩ := h ⟨pre.ilt, fun b hb' => pre.holds b (hb b hb'), fun b h1 c h2 => pre.inj b (hb b h1) c (hb c h2), pre.fresh⟩
  exact ⟨μ1, G.frame pre hb t t.wracc⟩

theorem prep_tidy {b : Nat} {blk : Blk} (hb : hp[b]? = some (some blk)) (x : Option Blk) (news : Hp) : Tidy hp (hp.set b x ++ news) [b] [b] := by
  have hl := (List.getElem?_eq_some_iff.1 hb).1
  refine ⟨by simp, fun c hc hn => ?_, by simp, by simpa using hl, fun c hc => ⟨blk, by rw [List.mem_singleton] at hc; rw [hc]; exact hb⟩⟩
  have hne : ¬ b = c := fun e => hn (by simp [e])
  rw [List.getElem?_append_left (by simpa using hc), List.getElem?_set, if_neg hne]

theorem prepBlk {b : Nat} {l l' : List V} {T : TypeId} (hb : hp[b]? = some (some (l, T))) (hm : rowT T = true ∨ ∀ c, l = [.sld c] → l' = [.sld c]) (hlen : (flat l').length = (flat l).length)
    (hcr : ∀ {I : Nat → Prop} {μ : Mu} {w : World} {F : List Nat} {vs : List Value}, CR P I μ w F l vs → ∃ F', F'.Sublist F ∧ CR P I μ w F' l' vs) : PrepOK P hp (hp.set b (some (l', T))) [b] := by
  have t := prep_tidy hb (some (l', T)) []
  rw [List.append_nil] at t
  refine .of t fun {I μ w} pre => ?_
  have hH := pre.holds b (by simp) _ hb
  have hsame : l' = l → ∃ μ1, Good P I I μ μ1 w w hp (hp.set b (some (l', T))) [b] [b] := by
    rintro rfl
    have e : hp.set b (some (l', T)) = hp := by
      apply List.ext_getElem?
      intro j
      rw [List.getElem?_set]
      split
      · rename_i e
        subst e
        rw [hb, if_pos (List.getElem?_eq_some_iff.1 hb).1]
      · rfl
    rw [e]
    have G := Good.same hp (pre.top (by simp))
    refine ⟨μ, G.isub, fun k hk => .inl hk, .refl _ _, .refl _, fun _ _ h => .inl h, fun _ _ _ => rfl, G.holds, fun c hc blk h g hg => ?_, G.inj⟩
    rcases hc with hc | hc
    · rw [List.getElem?_eq_none hc] at h; cases h
    · exact .inr ⟨c, hc, hg, _, h⟩
  rcases hH with ⟨g, cs, fr, h1, h2, h3, h4, ⟨h5, h6⟩, h7, h8⟩ | ⟨h1, h2⟩ | ⟨g, es, ck, c, h1, h2, h3, he, h4, h5⟩
  rotate_right
  · cases he
    rcases hm with hm | hm
    · simp [rowT, mapTid] at hm
    · exact hsame (hm _ rfl)
  · obtain ⟨F', hF, hc⟩ := hcr h6
    have G := Good.writeC (blk' := (l', T)) (cs := cs) (pre.top (by simp)) (by simp) hb h1 h3 rfl rfl h4 hF ⟨by simp only; rw [hlen]; exact h5, by simp only; rw [hlen]; exact hc⟩
    rw [setRow_self w g cs T fr h3] at G
    exact ⟨_, G⟩
  · refine ⟨μ, .refl _, fun _ h => .inl h, .refl _ _, .refl _, fun _ _ h => .inl h, fun _ _ _ => rfl, fun c hc blk hblk => ?_, fun c hc blk hblk g hg => ?_, fun c d b1 b2 g hne hc hd e1 e2 g1 g2 => ?_⟩
    · rcases set_at' hblk with ⟨rfl, rfl⟩ | ⟨hcb, h⟩
      · exact .inr (.inl ⟨h1, h2⟩)
      · rcases hc with hc | hc
        · exact absurd (by simpa using hc) hcb
        · rw [List.getElem?_eq_none hc] at h; cases h
    · have hcb : c = b := by
        rcases hc with hc | hc
        · have := (List.getElem?_eq_some_iff.1 hblk).1; simp at this; omega
        · simpa using hc
      subst hcb
      rcases hg with hg | hg
      · rw [h1] at hg; cases hg
      · rw [h2] at hg; cases hg
    · have key : ∀ (c : Nat) (b1 : Blk), (c ∈ [b] ∨ hp.length ≤ c) → (hp.set b (some (l', T)))[c]? = some (some b1) → c = b := by
        intro c b1 hc e1
        rcases hc with hc | hc
        · simpa using hc
        · have := (List.getElem?_eq_some_iff.1 e1).1; simp at this; omega
      exact hne ((key c b1 hc e1).trans (key d b2 hd e2).symm)

theorem CR.single {I : Nat → Prop} {μ : Mu} {w : World} {F : List Nat} {x : V} {t : List V} {vs : List Value} (hx : x.seals = none) (h : CR P I μ w F (x :: t) vs) : ∃ u us F1 F2, vs = u :: us ∧ F = F1 ++ F2 ∧ OX P I μ w F1 x u ∧ CR P I μ w F2 t us := (CR.cons_iff hx).1 h

theorem prepOpen {b : Nat} {pr po cs : List V} {T E : TypeId} {n : Nat} {o : Bool} (hb : hp[b]? = some (some (pr ++ .osl E n o cs :: po, T))) :
    PrepOK P hp (hp.set b (some (pr ++ .sl hp.length 0 n false :: po, T)) ++ [some ([mkS o cs], E)]) [b] := by
  have hbl := (List.getElem?_eq_some_iff.1 hb).1
  refine .of (prep_tidy hb _ _) fun {I μ w} pre => ?_
  have hH := pre.holds b (by simp) _ hb
  have hfresh : μ hp.length = none := pre.fresh _ (Nat.le_refl _) (by simp)
  have hat : ∀ c blk, (hp.set b (some (pr ++ .sl hp.length 0 n false :: po, T)) ++ [some ([mkS o cs], E)])[c]? = some (some blk) → (c ∈ [b] ∨ hp.length ≤ c) → (c = b ∧ blk = (pr ++ .sl hp.length 0 n false :: po, T)) ∨ (c = hp.length ∧ blk = ([mkS o cs], E)) := by
    intro c blk h hc
    rcases app_at h with ⟨h1, h⟩ | ⟨h1, h⟩
    · simp only [List.length_set] at h1
      have hcb : c = b := by
        rcases hc with hc | hc
        · simpa using hc
        · omega
      rcases set_at' h with ⟨_, h⟩ | ⟨h2, _⟩
      · exact .inl ⟨hcb, h⟩
      · exact absurd hcb h2
    · simp only [List.length_set] at h1
      exact .inr ⟨h1, h⟩
  have fin : ∀ μ1 : Mu, MuLe μ μ1 → (∀ c g, μ1 c = some g → μ c = some g ∨ c = hp.length) → (∀ c, c ≠ b → c ≠ hp.length → μ1.ft c = μ.ft c) →
      Holds P I μ1 w b (pr ++ .sl hp.length 0 n false :: po, T) → Holds P I μ1 w hp.length ([mkS o cs], E) → (∀ g, μ1.own b g → μ.own b g) → (∀ g, μ1.own hp.length g → μ.own b g) → (∀ g, μ1.own b g → μ1.own hp.length g → False) →
      ∃ μ1, Good P I I μ μ1 w w hp (hp.set b (some (pr ++ .sl hp.length 0 n false :: po, T)) ++ [some ([mkS o cs], E)]) [b] [b] := by
    intro μ1 hle hdom hft hB hN ob oN hdis
    refine ⟨μ1, .refl _, fun _ h => .inl h, .refl _ _, hle, fun c g h => ?_, fun c hc hn => ?_, fun c hc blk hblk => ?_, fun c hc blk hblk g hg => ?_, fun c d b1 b2 g hne hc hd e1 e2 g1 g2 => ?_⟩
    · rcases hdom c g h with h | h
      · exact .inl h
      · right; simp; omega
    · exact hft c (by simpa using hc) (fun e => hn ⟨by omega, by simp; omega⟩)
    · rcases hat c blk hblk hc with ⟨rfl, rfl⟩ | ⟨rfl, rfl⟩
      · exact hB
      · exact hN
    · have hc' : c ∈ [b] ∨ hp.length ≤ c := hc.symm
      right
      refine ⟨b, by simp, ?_, _, hb⟩
      rcases hat c blk hblk hc' with ⟨rfl, rfl⟩ | ⟨rfl, rfl⟩
      · exact ob g hg
      · exact oN g hg
    · rcases hat c b1 e1 hc with ⟨rfl, _⟩ | ⟨rfl, _⟩
      · rcases hat d b2 e2 hd with ⟨rfl, _⟩ | ⟨rfl, _⟩
        · exact hne rfl
        · exact hdis g g1 g2
      · rcases hat d b2 e2 hd with ⟨rfl, _⟩ | ⟨rfl, _⟩
        · exact hdis g g2 g1
        · exact hne rfl
  have hbn : b ≠ hp.length := by omega
  rcases hH with ⟨g, row, fr, h1, h2, h3, h4, ⟨h5, h6⟩, h7, h8⟩ | ⟨h1, h2⟩ | ⟨_, _, _, _, _, _, _, he, _⟩
  rotate_right
  · have he1 := congrArg Prod.fst he
    simp only at he1
    cases pr with
    | nil => cases he1
    | cons x pr => have := congrArg List.length he1; simp at this
  · obtain ⟨F1, F2, us, us', hvs, hF, k1, k2⟩ := CR.append_iff.1 h6
    obtain ⟨u, us2, Fo, F3, rfl, rfl, k3, k4⟩ := (CR.cons_iff rfl).1 k2
    have k5 : V.O P I w Fo (.osl E n o cs) u := k3
    have hnd := h7
    rw [hF, List.nodup_cons] at hnd
    obtain ⟨hng, hnd⟩ := hnd
    have hlen : (flat (pr ++ .sl hp.length 0 n false :: po)).length = (flat (pr ++ .osl E n o cs :: po)).length := by
      rw [flat_append, flat_append, flat_cons rfl, flat_cons rfl]; simp
    have hsub : (F1 ++ F3).Sublist (μ.ft b) := by
      rw [hF]; exact (List.Sublist.refl F1).append (List.sublist_append_right Fo F3)
    rcases O_osl.1 k5 with ⟨rfl, rfl, hnil⟩ | ⟨g2, cap, i, cells, fr2, F', hu, rfl, q3, q4, q5, q6, q7, q8, q9, q10⟩
    · -- it has no room
      refine fin ((μ.setFt b (F1 ++ F3)).setFt hp.length []) (fun _ _ h => h) (fun _ _ h => .inl h) (fun c hc hc2 => by rw [Mu.setFt_fne _ _ hc2, Mu.setFt_fne _ _ hc]) ?_ (.inr (.inl ⟨hfresh, by rw [Mu.setFt_ft]⟩)) ?_ ?_ ?_
      · refine .inl ⟨g, row, fr, h1, h2, h3, h4, ⟨by rw [hlen]; exact h5, ?_⟩, ?_, ?_⟩
        · rw [Mu.setFt_fne _ _ hbn, Mu.setFt_ft, hlen, hvs]
          have hle : MuLe μ ((μ.setFt b (F1 ++ F3)).setFt hp.length []) := fun _ _ h => h
          have hx : V.R P I ((μ.setFt b (F1 ++ F3)).setFt hp.length []) w (.sl hp.length 0 0 false) u := by
            simp only [V.R]
            exact .inr ⟨trivial, trivial, hnil⟩
          have hc := CR.append_iff.2 ⟨F1, _, us, _, rfl, rfl, k1.keep (.refl w (fun _ => False)) (.refl I) hle (fun _ _ h => h), (CR.cons_iff rfl).2 ⟨u, us2, [], F3, rfl, rfl, OX_ofR hx, k4.keep (.refl w (fun _ => False)) (.refl I) hle (fun _ _ h => h)⟩⟩
          rwa [List.nil_append] at hc
        · rw [Mu.setFt_fne _ _ hbn, Mu.setFt_ft, List.nodup_cons]
          exact ⟨fun h => hng (by rw [← hF]; exact hsub.subset h), hnd.sublist (by rw [← hF]; exact hsub)⟩
        · intro k hk
          rw [Mu.setFt_fne _ _ hbn, Mu.setFt_ft] at hk
          exact h8 k (hsub.subset hk)
      · rintro k (hk | hk)
        · exact .inl hk
        · rw [Mu.setFt_fne _ _ hbn, Mu.setFt_ft] at hk; exact .inr (hsub.subset hk)
      · rintro k (hk | hk)
        · have hk' : μ hp.length = some k := hk
          rw [hfresh] at hk'; cases hk'
        · rw [Mu.setFt_ft] at hk; cases hk
      · rintro k _ (hk | hk)
        · have hk' : μ hp.length = some k := hk
          rw [hfresh] at hk'; cases hk'
        · rw [Mu.setFt_ft] at hk; cases hk
    · have hgF : ∀ k, k ∈ g2 :: F' → k ∈ μ.ft b := by
        intro k hk; rw [hF]; simp only [List.mem_append]; exact .inr (.inl hk)
      have hle : MuLe μ ((μ.setFt b (F1 ++ F3)).put hp.length g2 F') := (Mu.setFt_le b _).trans (Mu.put_le (by exact hfresh))
      have hnd2 : ∀ k, k ∈ g2 :: F' → k ∉ F1 ++ F3 := by
        intro k hk hk2
        rw [List.nodup_append] at hnd
        obtain ⟨n1, n2, n3⟩ := hnd
        rw [List.nodup_append] at n2
        rcases List.mem_append.1 hk2 with h | h
        · exact n3 k h k (List.mem_append.2 (.inl hk)) rfl
        · exact n2.2.2 k hk k h rfl
      have hnF : (g2 :: F').Nodup := by
        rw [List.nodup_append] at hnd
        have := hnd.2.1
        rw [List.nodup_append] at this
        exact this.1
      have nmb : ((μ.setFt b (F1 ++ F3)).put hp.length g2 F') b = some g := by rw [Mu.put_ne _ _ _ hbn]; exact h1
      have ftb : ((μ.setFt b (F1 ++ F3)).put hp.length g2 F').ft b = F1 ++ F3 := by rw [Mu.put_fne _ _ _ hbn, Mu.setFt_ft]
      refine fin ((μ.setFt b (F1 ++ F3)).put hp.length g2 F') hle (fun c k h => ?_) (fun c hc hc2 => by rw [Mu.put_fne _ _ _ hc2, Mu.setFt_fne _ _ hc]) ?_ (.inl ⟨g2, cells, fr2, Mu.put_at _ _ _ _, (h8 g2 (hgF g2 (by simp))).1, q6, q7, ⟨by rw [flat_mkS]; exact q9, ?_⟩, ?_, ?_⟩) ?_ ?_ ?_
      · by_cases hc : c = hp.length
        · exact .inr hc
        · rw [Mu.put_ne _ _ _ hc] at h; exact .inl h
      · refine .inl ⟨g, row, fr, nmb, h2, h3, h4, ⟨by rw [hlen]; exact h5, ?_⟩, ?_, ?_⟩
        · rw [ftb, hlen, hvs]
          have hx : V.R P I ((μ.setFt b (F1 ++ F3)).put hp.length g2 F') w (.sl hp.length 0 n false) u := by
            simp only [V.R]
            exact .inl ⟨g2, cap, E, cells.size, i, Mu.put_at _ _ _ _, hu, q3, q4, by simp, shape_of q6, q5, by omega⟩
          have hc := CR.append_iff.2 ⟨F1, _, us, _, rfl, rfl, k1.keep (.refl w (fun _ => False)) (.refl I) hle (fun _ _ h => h), (CR.cons_iff rfl).2 ⟨u, us2, [], F3, rfl, rfl, OX_ofR hx, k4.keep (.refl w (fun _ => False)) (.refl I) hle (fun _ _ h => h)⟩⟩
          rwa [List.nil_append] at hc
        · rw [ftb, List.nodup_cons]
          exact ⟨fun h => hng (by rw [← hF]; exact hsub.subset h), hnd.sublist (by rw [← hF]; exact hsub)⟩
        · intro k hk
          rw [ftb] at hk
          exact h8 k (hsub.subset hk)
      · rw [Mu.put_ft, flat_mkS]; exact CR.sealedO q10
      · rw [Mu.put_ft]; exact hnF
      · intro k hk
        rw [Mu.put_ft] at hk
        exact h8 k (hgF k (by simp [hk]))
      · rintro k (hk | hk)
        · rw [nmb] at hk; cases hk; exact .inl h1
        · rw [ftb] at hk; exact .inr (hsub.subset hk)
      · intro k hk
        exact .inr (hgF k (by rcases Mu.own_at _ hk with rfl | h; simp; simp [h]))
      · intro k hk1 hk2
        have hk2' : k ∈ g2 :: F' := by rcases Mu.own_at _ hk2 with rfl | h; simp; simp [h]
        rcases hk1 with hk | hk
        · rw [nmb] at hk; cases hk
          exact hng (by rw [← hF]; exact hgF g hk2')
        · rw [ftb] at hk; exact hnd2 k hk2' hk
  · -- the block itself is that of a slice that is nil
    refine fin (μ.setFt hp.length []) (fun _ _ h => h) (fun _ _ h => .inl h) (fun c hc hc2 => by rw [Mu.setFt_fne _ _ hc2]) (.inr (.inl ⟨h1, by rw [Mu.setFt_fne _ _ hbn]; exact h2⟩)) (.inr (.inl ⟨hfresh, by rw [Mu.setFt_ft]⟩)) ?_ ?_ ?_
    · rintro k (hk | hk)
      · exact .inl hk
      · rw [Mu.setFt_fne _ _ hbn] at hk; exact .inr hk
    · rintro k (hk | hk)
      · have hk' : μ hp.length = some k := hk
        rw [hfresh] at hk'; cases hk'
      · rw [Mu.setFt_ft] at hk; cases hk
    · rintro k _ (hk | hk)
      · have hk' : μ hp.length = some k := hk
        rw [hfresh] at hk'; cases hk'
      · rw [Mu.setFt_ft] at hk; cases hk

theorem prepPack {b c : Nat} {pr po l2 : List V} {T E : TypeId} {n : Nat} {f : Bool} (hne : b ≠ c) (hb : hp[b]? = some (some (pr ++ .sl c 0 n f :: po, T))) (hc : hp[c]? = some (some (l2, E))) (hr : V.refsL l2 = []) :
    PrepOK P hp ((hp.set b (some (pr ++ .osl E n (hasO l2) (flat l2) :: po, T))).set c none) [b, c] := by
  have hbl := (List.getElem?_eq_some_iff.1 hb).1
  have hcl := (List.getElem?_eq_some_iff.1 hc).1
  refine .of ⟨by simp, fun d hd hn => ?_, by simp, fun d hd => ?_, fun d hd => ?_⟩ fun {I μ w} pre => ?_
  · simp only [List.mem_cons, List.not_mem_nil, or_false, not_or] at hn
    rw [List.getElem?_set, if_neg (fun e => hn.2 e.symm), List.getElem?_set, if_neg (fun e => hn.1 e.symm)]
  · simp only [List.mem_cons, List.not_mem_nil, or_false] at hd
    rcases hd with rfl | rfl <;> assumption
  · simp only [List.mem_cons, List.not_mem_nil, or_false] at hd
    rcases hd with rfl | rfl
    · exact ⟨_, hb⟩
    · exact ⟨_, hc⟩
  have hH := pre.holds b (by simp) _ hb
  have hC := pre.holds c (by simp) _ hc
  have hat : ∀ d blk, ((hp.set b (some (pr ++ .osl E n (hasO l2) (flat l2) :: po, T))).set c none)[d]? = some (some blk) → (d ∈ [b, c] ∨ hp.length ≤ d) → d = b ∧ blk = (pr ++ .osl E n (hasO l2) (flat l2) :: po, T) := by
    intro d blk h hd
    obtain ⟨h1, h⟩ := setnone_at h
    have hdb : d = b := by
      rcases hd with hd | hd
      · simp only [List.mem_cons, List.not_mem_nil, or_false] at hd
        exact hd.resolve_right h1
      · have := (List.getElem?_eq_some_iff.1 h).1; simp at this; omega
    rcases set_at' h with ⟨_, h⟩ | ⟨h2, _⟩
    · exact ⟨hdb, h⟩
    · exact absurd hdb h2
  have fin : ∀ F : List Nat, Holds P I (μ.setFt b F) w b (pr ++ .osl E n (hasO l2) (flat l2) :: po, T) → (∀ g ∈ F, μ.own b g ∨ μ.own c g) → ∃ μ1, Good P I I μ μ1 w w hp ((hp.set b (some (pr ++ .osl E n (hasO l2) (flat l2) :: po, T))).set c none) [b, c] [b, c] := by
    intro F hB hF
    refine ⟨μ.setFt b F, .refl _, fun _ h => .inl h, .refl _ _, Mu.setFt_le b F, fun _ _ h => .inl h, fun d hd _ => Mu.setFt_fne _ _ (by rintro rfl; simp at hd), fun d hd blk hblk => ?_, fun d hd blk hblk g hg => ?_, fun d e b1 b2 g hne hd he e1 e2 g1 g2 => ?_⟩
    · obtain ⟨rfl, rfl⟩ := hat d blk hblk hd
      exact hB
    · obtain ⟨rfl, rfl⟩ := hat d blk hblk hd.symm
      right
      rcases hg with hg | hg
      · exact ⟨d, by simp, .inl hg, _, hb⟩
      · rw [Mu.setFt_ft] at hg
        rcases hF g hg with h | h
        · exact ⟨d, by simp, h, _, hb⟩
        · exact ⟨c, by simp, h, _, hc⟩
    · exact hne ((hat d b1 e1 hd).1.trans (hat e b2 e2 he).1.symm)
  rcases hH with ⟨g, row, fr, h1, h2, h3, h4, ⟨h5, h6⟩, h7, h8⟩ | ⟨h1, h2⟩ | ⟨_, _, _, _, _, _, _, he, _⟩
  rotate_right
  · have he1 := congrArg Prod.fst he
    simp only at he1
    cases pr with
    | nil => cases he1
    | cons x pr => have := congrArg List.length he1; simp at this
  · obtain ⟨F1, F2, us, us', hvs, hF, k1, k2⟩ := CR.append_iff.1 h6
    obtain ⟨u, us2, Fo, F3, rfl, rfl, k3, k4⟩ := (CR.cons_iff rfl).1 k2
    obtain ⟨rfl, k5⟩ := k3.plain rfl
    rw [List.nil_append] at hF
    have hlen : (flat (pr ++ .osl E n (hasO l2) (flat l2) :: po)).length = (flat (pr ++ .sl c 0 n f :: po)).length := by
      rw [flat_append, flat_append, flat_cons rfl, flat_cons rfl]; simp
    have key : ∀ Fo : List Nat, V.O P I w Fo (.osl E n (hasO l2) (flat l2)) u → (g :: (F1 ++ (Fo ++ F3))).Nodup → (∀ k ∈ Fo, ¬ I k ∧ k < w.heap.size ∧ (μ.own b k ∨ μ.own c k)) → ∃ μ1, Good P I I μ μ1 w w hp ((hp.set b (some (pr ++ .osl E n (hasO l2) (flat l2) :: po, T))).set c none) [b, c] [b, c] := by
      intro Fo hO hnd hFo
      have hle : MuLe μ (μ.setFt b (F1 ++ (Fo ++ F3))) := Mu.setFt_le b _
      refine fin (F1 ++ (Fo ++ F3)) (.inl ⟨g, row, fr, h1, h2, h3, h4, ⟨by rw [hlen]; exact h5, ?_⟩, by rw [Mu.setFt_ft]; exact hnd, fun k hk => ?_⟩) fun k hk => ?_
      · rw [Mu.setFt_ft, hlen, hvs]
        exact CR.append_iff.2 ⟨F1, _, us, _, rfl, rfl, k1.keep (.refl w (fun _ => False)) (.refl I) hle (fun _ _ h => h), (CR.cons_iff rfl).2 ⟨u, us2, Fo, F3, rfl, rfl, OX_ofO hO, k4.keep (.refl w (fun _ => False)) (.refl I) hle (fun _ _ h => h)⟩⟩
      · rw [Mu.setFt_ft] at hk
        rcases List.mem_append.1 hk with h | h
        · exact h8 k (by rw [hF]; simp [h])
        · rcases List.mem_append.1 h with h | h
          · exact ⟨(hFo k h).1, (hFo k h).2.1⟩
          · exact h8 k (by rw [hF]; simp [h])
      · rcases List.mem_append.1 hk with h | h
        · exact .inl (.inr (by rw [hF]; simp [h]))
        · rcases List.mem_append.1 h with h | h
          · exact (hFo k h).2.2
          · exact .inl (.inr (by rw [hF]; simp [h]))
    simp only [V.R] at k5
    rcases k5 with ⟨g2, cap, e, N, i, hg2, rfl, q1, q2, _, q4, q5, q6⟩ | ⟨_, rfl, hnil⟩
    · obtain ⟨row2, fr2, r1, r2, r3, ⟨r4, r5⟩, r6, r7⟩ := hC.realS hg2 q4
      have hsh := shape_of r2
      rw [q4] at hsh
      cases hsh
      refine key (g2 :: μ.ft c) (O_osl.2 (.inr ⟨g2, cap, i, row2, fr2, μ.ft c, rfl, rfl, q1, q2, q5, r2, r3, by omega, r4, r5.nomuS hr⟩)) ?_ fun k hk => ?_
      · have hdis : ∀ k, μ.own b k → k ∈ g2 :: μ.ft c → False := by
          intro k h1 h2
          refine pre.inj b (by simp) c (by simp) _ _ k hne hb hc h1 ?_
          rcases List.mem_cons.1 h2 with rfl | h2
          · exact .inl hg2
          · exact .inr h2
        rw [List.nodup_cons, hF] at h7
        have hn2 := h7.2
        rw [List.nodup_append] at hn2
        obtain ⟨n1, n3, n13⟩ := hn2
        rw [List.nodup_cons]
        refine ⟨fun h => ?_, ?_⟩
        · rcases List.mem_append.1 h with h | h
          · exact h7.1 (by simp [h])
          · rcases List.mem_append.1 h with h | h
            · exact hdis g (.inl h1) h
            · exact h7.1 (by simp [h])
        · rw [List.nodup_append]
          refine ⟨n1, ?_, fun a ha k hk e => ?_⟩
          · rw [List.nodup_append]
            exact ⟨r6, n3, fun a ha k hk e => hdis k (.inr (by rw [hF]; simp [hk])) (by rw [← e]; exact ha)⟩
          · subst e
            rcases List.mem_append.1 hk with h | h
            · exact hdis a (.inr (by rw [hF]; simp [ha])) h
            · exact n13 a ha a h rfl
      · rcases List.mem_cons.1 hk with rfl | hk
        · exact ⟨r1, (Array.getElem?_eq_some_iff.1 r2).1, .inr (.inl hg2)⟩
        · exact ⟨(r7 k hk).1, (r7 k hk).2, .inr (.inr hk)⟩
    · refine key [] (O_osl.2 (.inl ⟨rfl, rfl, hnil⟩)) (by rw [List.nil_append, ← hF]; exact h7) (by simp)
  · refine fin (μ.ft b) (.inr (.inl ⟨h1, by rw [Mu.setFt_ft]; exact h2⟩)) (fun k hk => .inl (.inr hk))

theorem prepSeal {b : Nat} {l : List V} {T : TypeId} (hb : hp[b]? = some (some (l, T))) (hr : V.refsL l = []) : PrepOK P hp (hp.set b (some ([mkS (hasO l) (flatC l)], T))) [b] :=
  prepBlk hb (.inr fun c e => by subst e; rfl) (by rw [flat_mkS, flatC_length]) fun h => ⟨_, .refl _, CR.sealedO (h.canL hr)⟩
theorem OS.pieces {I : Nat → Prop} {μ : Mu} {w : World} {o : Bool} {F : List Nat} {v : List V} {vs : List Value} (h : OS P I w o F v vs) : CR P I μ w F v vs := by
  cases o
  · obtain ⟨rfl, h⟩ := h; exact .of (RL_up h)
  · have := OXL_ofOL (μ := μ) h
    exact .ofXL (noSeal_of_XL this) this
theorem prepShow {b : Nat} {o : Bool} {c v : List V} {T : TypeId} {base es : Nat} (hb : hp[b]? = some (some ([mkS o c], T))) (hv : (c.drop base).take es = v) (hs : hasSeal v = false) (hl : base + es ≤ c.length) (hT : rowT T = true) :
    PrepOK P hp (hp.set b (some ([mkS o (c.take base)] ++ v ++ [mkS o (c.drop (base + es))], T))) [b] := by
  refine prepBlk hb (.inl hT) ?_ fun {I μ w F vs} h => ?_
  · rw [flat_append, flat_append, flat_mkS, flat_mkS, flat_mkS, flat_noSeal hs, ← hv]
    simp only [List.length_append, List.length_take, List.length_drop]; omega
  · obtain ⟨us, vs', F1, F2, rfl, rfl, h1, h2⟩ := CR.sealO_iff.1 h
    obtain ⟨rfl, rfl⟩ := CR.nil_iff.1 h2
    obtain ⟨G1, G2, hG, k1, k2⟩ := h1.split base
    obtain ⟨G3, G4, hG2, k3, k4⟩ := k2.split es
    simp only [List.drop_drop] at k4
    rw [hv] at k3
    refine ⟨G1 ++ (G3 ++ G4), by rw [hG, hG2]; simp, ?_⟩
    have hvs : us ++ [] = us.take base ++ ((us.drop base).take es ++ us.drop (base + es)) := by
      rw [← List.drop_drop, List.take_append_drop, List.take_append_drop, List.append_nil]
    rw [hvs, List.append_assoc]
    exact (CR.sealedO k1).append (k3.pieces.append (CR.sealedO k4))
def V.nilish : V → Bool
  | .dsl 0 true _ => true
  | .lit (.slice none 0 0) => true
  | .sl _ _ 0 true => true
  | _ => false
theorem nilish_R {I : Nat → Prop} {μ : Mu} {w : World} {c : V} {u : Value} (h : c.nilish = true) (hR : V.R P I μ w c u) : Nilish u := by
  unfold V.nilish at h
  split at h
  · simp only [V.R] at hR
    obtain ⟨a, cap, rfl, _, hf, ha, _⟩ := hR
    obtain rfl : cap = 0 := hf trivial
    exact ⟨a, rfl, ha.imp (fun h => h.1) id⟩
  · simp only [V.R] at hR
    exact ⟨none, hR, .inl rfl⟩
  · simp only [V.R] at hR
    rcases hR with ⟨g, cap, e, N, i, _, rfl, _, _, hf, _⟩ | ⟨_, _, h⟩
    · obtain rfl : cap = 0 := hf trivial
      exact ⟨_, rfl, .inr ⟨_, _, rfl⟩⟩
    · exact h
  · cases h
theorem prepNil {b : Nat} {pr po : List V} {c : V} {T E : TypeId} (hc : c.nilish = true) (hb : hp[b]? = some (some (pr ++ c :: po, T))) : PrepOK P hp (hp.set b (some (pr ++ .osl E 0 false [] :: po, T))) [b] := by
  have hcs : c.seals = none := by unfold V.nilish at hc; split at hc <;> first | rfl | cases hc
  have hco : c.isO = false := by unfold V.nilish at hc; split at hc <;> first | rfl | cases hc
  refine prepBlk hb (.inr fun x e => ?_) ?_ fun {I μ w F vs} h => ?_
  · cases pr with
    | nil => rw [List.nil_append] at e; cases e; cases hcs
    | cons y pr => have := congrArg List.length e; simp at this
  · rw [flat_append, flat_append, flat_cons hcs, flat_cons rfl]; simp
  · obtain ⟨F1, F2, us, us', rfl, rfl, k1, k2⟩ := CR.append_iff.1 h
    obtain ⟨u, us2, Fo, F3, rfl, rfl, k3, k4⟩ := (CR.cons_iff hcs).1 k2
    obtain ⟨rfl, k5⟩ := k3.plain hco
    exact ⟨_, .refl _, CR.append_iff.2 ⟨F1, _, us, _, rfl, rfl, k1, (CR.cons_iff rfl).2 ⟨u, us2, [], F3, rfl, rfl, OX_ofO (O_osl.2 (.inl ⟨rfl, rfl, nilish_R hc k5⟩)), k4⟩⟩⟩
theorem prepRoom {b c : Nat} {pr po : List V} {off n : Nat} {f : Bool} {T : TypeId} (hb : hp[b]? = some (some (pr ++ .sl c off n f :: po, T))) : PrepOK P hp (hp.set b (some (pr ++ .sl c off n false :: po, T))) [b] := by
  refine prepBlk hb (.inr fun x e => ?_) ?_ fun {I μ w F vs} h => ?_
  · cases pr with
    | nil => cases e
    | cons y pr => have := congrArg List.length e; simp at this
  · rw [flat_append, flat_append, flat_cons rfl, flat_cons rfl]; simp
  · obtain ⟨F1, F2, us, us', rfl, rfl, k1, k2⟩ := CR.append_iff.1 h
    obtain ⟨u, us2, Fo, F3, rfl, rfl, k3, k4⟩ := (CR.cons_iff rfl).1 k2
    obtain ⟨rfl, k5⟩ := k3.plain rfl
    refine ⟨_, .refl _, CR.append_iff.2 ⟨F1, _, us, _, rfl, rfl, k1, (CR.cons_iff rfl).2 ⟨u, us2, [], F3, rfl, rfl, OX_ofR ?_, k4⟩⟩⟩
    simp only [V.R] at k5 ⊢
    rcases k5 with ⟨g, cap, e, N, i, q1, q2, q3, q4, _, q5⟩ | h
    · exact .inl ⟨g, cap, e, N, i, q1, q2, q3, q4, by simp, q5⟩
    · exact .inr h

end
end Go.Proofs.YtfncaghjfgnnhaaGreatDoor

namespace Go.Proofs.YtfncaghjfgnnhaaGreatDoor
open Go.RowKit

section
variable {P : Program} {m : Nat} {s : St} {hp1 : Hp} {bs : List Nat}

theorem PrepOK.weakV (h : PrepOK P s.hp hp1 bs) : WeakV P m s ⟨s.tm, hp1, s.wr ++ bs⟩ id := by
  constructor
  · intro hp0 e C
    refine ⟨Nat.le_trans C.len h.tidy.len, fun b hb hn => ?_, fun b hb hal => ?_⟩
    · simp only [List.mem_append, not_or] at hn
      show hp1[b]? = _
      rw [h.tidy.frame b (Nat.lt_of_lt_of_le hb C.len) hn.2]
      exact C.frame b hb hn.1
    · by_cases hbs : b ∈ bs
      · exact C.alive b hb (h.tidy.walive b hbs)
      · obtain ⟨blk, hal⟩ := hal
        exact C.alive b hb ⟨blk, by rw [← h.tidy.frame b (Nat.lt_of_lt_of_le hb C.len) hbs]; exact hal⟩
  · intro hp0 I0 μ0 w0 e a w Im μ C
    subst e
    have hl := C.len
    have hfr : ∀ b, hp1.length ≤ b → μ b = none := by
      intro b hb
      cases hq : μ b with
      | none => rfl
      | some g => have := C.dom b g hq; have := h.tidy.len; omega
    obtain ⟨μ1, G⟩ := h.run (I := Im) (μ := μ) (w := w) (acc := List.range s.hp.length) ⟨C.ilt, fun b _ blk hb => C.holds b blk hb, fun b _ c _ b1 b2 g hne h1 h2 => C.inj b c b1 b2 g hne h1 h2, fun b h1 h2 => by
      cases hq : μ b with
      | none => rfl
      | some g => have := C.dom b g hq; omega⟩ (fun b hb => by simpa using h.tidy.accb b hb)
    have hin : ∀ b, b ∈ List.range s.hp.length ∨ s.hp.length ≤ b := fun b => by rw [List.mem_range]; omega
    have back : ∀ c blk, hp1[c]? = some (some blk) → ∀ g, μ1.own c g → (hp0.length ≤ c ∨ c ∈ s.wr ++ bs) → w0.heap.size ≤ g ∨ ∃ d ∈ s.wr ++ bs, d < hp0.length ∧ μ0.own d g ∧ Alive hp0 d := by
      intro c blk hc g hg hcc
      rcases G.back h.tidy.accb h.tidy.frame hc hg with h1 | ⟨d, h1, h2, h3, h4⟩
      · exact .inl (Nat.le_trans C.evo.size h1)
      · obtain ⟨blk', h4⟩ := h4
        by_cases hd : hp0.length ≤ d ∨ d ∈ s.wr
        · rcases C.prov d hd blk' h4 g h3 with h5 | ⟨f, k1, k2, k3, k4⟩
          · exact .inl h5
          · exact .inr ⟨f, by simp [k1], k2, k3, k4⟩
        · simp only [not_or, Nat.not_le] at hd
          have hdb : d ∈ s.wr ++ bs := by
            rcases h1 with h1 | rfl
            · simp [h1]
            · rcases hcc with h5 | h5
              · omega
              · exact h5
          refine .inr ⟨d, hdb, hd.1, ?_, C.alive d hd.1 ⟨blk', h4⟩⟩
          rcases h3 with h3 | h3
          · exact .inl (C.dom0 d g h3 hd.1)
          · rw [C.ftd d hd.1 hd.2] at h3; exact .inr h3
    refine ⟨Im, μ1, ⟨fun t => (C.tm t).keep (.refl w (fun _ => False)) (.refl _) G.le, C.size, C.defers, fun b blk hb => G.holds b (hin b) blk hb, fun b c b1 b2 g hne h1 h2 => G.inj b c b1 b2 g hne (hin b) (hin c) h1 h2, fun b g hg => ?_, fun b g hg hb => ?_, fun b hb hn => ?_, C.evo.mono fun k ⟨b, hb, h2⟩ => ⟨b, by simp [hb], h2⟩, C.le.trans G.le, fun b hb blk hblk g hg => back b blk hblk g hg hb, Nat.le_trans hl h.tidy.len, fun b hb hn => ?_, fun b hb hal => ?_, fun b hb hl => ?_, C.isub, fun k hk => ?_, C.ilt, C.ent⟩, fun v u hR => hR.keep (.refl w (fun _ => False)) (.refl _) G.le⟩
    · rcases G.dom b g hg with h1 | h1
      · exact Nat.lt_of_lt_of_le (C.dom b g h1) h.tidy.len
      · exact h1.2
    · rcases G.dom b g hg with h1 | h1
      · exact C.dom0 b g h1 hb
      · omega
    · simp only [List.mem_append, not_or] at hn
      rw [G.ftd b hn.2 (by omega)]
      exact C.ftd b hb hn.1
    · simp only [List.mem_append, not_or] at hn
      show hp1[b]? = _
      rw [h.tidy.frame b (Nat.lt_of_lt_of_le hb hl) hn.2]
      exact C.frame b hb hn.1
    · by_cases hbs : b ∈ bs
      · exact C.alive b hb (h.tidy.walive b hbs)
      · obtain ⟨blk, hal⟩ := hal
        exact C.alive b hb ⟨blk, by rw [← h.tidy.frame b (Nat.lt_of_lt_of_le hb hl) hbs]; exact hal⟩
    · rcases List.mem_append.1 hb with hb | hb
      · exact C.wal b hb hl
      · exact C.alive b hl (h.tidy.walive b hb)
    · rcases C.igrow k hk with h1 | h1 | ⟨c, h1, h2⟩
      · exact .inl h1
      · exact .inr (.inl h1)
      · exact .inr (.inr ⟨c, by simp [h1], h2⟩)

theorem WeakV.trans {a b c : St} {f g : V → V} (h : WeakV P m a b f) (k : WeakV P m b c g) : WeakV P m a c (g ∘ f) :=
  ⟨fun hp0 e hs => k.st hp0 e (h.st hp0 e hs), fun e _ _ _ _ C => by
    obtain ⟨_, _, C1, h1⟩ := h.run e C
    obtain ⟨_, _, C2, h2⟩ := k.run e C1
    exact ⟨_, _, C2, fun v u hR => h2 _ _ (h1 _ _ hR)⟩⟩
theorem WeakV.trans' {a b c : St} (h : WeakV P m a b id) (k : WeakV P m b c id) : WeakV P m a c id := h.trans k
theorem WeakV.refl (a : St) : WeakV P m a a id := ⟨fun _ _ h => h, fun _ _ _ _ _ C => ⟨_, _, C, fun _ _ h => h⟩⟩
theorem WeakV.weak {a b : St} {f : V → V} (h : WeakV P m a b f) : Weak P m a b := ⟨h.st, fun e _ _ _ _ C => by
  obtain ⟨_, _, C1, _⟩ := h.run e C
  exact ⟨_, _, C1⟩⟩
end

abbrev OwnT := TypeId → Nat → Option TypeId

def offAt (l : List V) (j : Nat) : Nat := (l.take j).foldl (fun k x => match x.seals with | some _ => 0 | none => k + 1) 0
def ownRefs (ow : OwnT) (blk : Blk) : List Nat := blk.1.zipIdx.flatMap fun x => match x.1 with
  | .sl c _ _ _ => match ow blk.2 (offAt blk.1 x.2) with
    | some _ => [c]
    | none => []
  | c => V.refs c
def reachO (ow : OwnT) (hp : Hp) : Nat → List Nat → List Nat → List Nat
  | 0, _, seen => seen
  | _ + 1, [], seen => seen
  | n + 1, b :: t, seen =>
    if seen.contains b then reachO ow hp n t seen else
    match hp[b]? with
    | some (some blk) => reachO ow hp n (t ++ ownRefs ow blk) (seen ++ [b])
    | _ => reachO ow hp n t seen
def packAt (ow : OwnT) (m : Nat) (roots : List Nat) (b j : Nat) (s : St) : St :=
  match s.hp[b]? with
  | some (some blk) => match blk.1[j]? with
    | some (.sl c 0 n f) =>
      match (ow blk.2 (offAt blk.1 j)).isSome && Nat.ble m c && !roots.contains c && !(Nat.beq b c), s.hp[c]? with
      | true, some (some blk2) => match V.refsL blk2.1 with
        | [] => ⟨s.tm, (s.hp.set b (some (blk.1.take j ++ .osl blk2.2 n (hasO blk2.1) (flat blk2.1) :: blk.1.drop (j + 1), blk.2))).set c none, s.wr ++ [b, c]⟩
        | _ => s
      | _, _ => s
    | some c => match c.nilish, ow blk.2 (offAt blk.1 j) with
      | true, some E => ⟨s.tm, s.hp.set b (some (blk.1.take j ++ .osl E 0 false [] :: blk.1.drop (j + 1), blk.2)), s.wr ++ [b]⟩
      | _, _ => s
    | none => s
  | _ => s
def places (hp : Hp) (b : Nat) : List (Nat × Nat × Bool) := match hp[b]? with
  | some (some blk) => (List.range blk.1.length).map fun j => (b, j, true)
  | _ => []
def packL (ow : OwnT) (m : Nat) (roots : List Nat) : Nat → List (Nat × Nat × Bool) → St → St
  | 0, _, s => s
  | _ + 1, [], s => s
  | k + 1, (b, j, first) :: t, s =>
    match first, s.hp[b]? with
    | true, some (some blk) => match blk.1[j]? with
      | some (.sl c 0 n f) => packL ow m roots k (places s.hp c ++ (b, j, false) :: t) s
      | _ => packL ow m roots k t (packAt ow m roots b j s)
    | _, _ => packL ow m roots k t (packAt ow m roots b j s)

section
variable {P : Program} {m : Nat}
theorem take_drop_at {α : Type} {l : List α} {j : Nat} {x : α} (h : l[j]? = some x) : l = l.take j ++ x :: l.drop (j + 1) := by
  have hl := (List.getElem?_eq_some_iff.1 h).1
  conv => lhs; rw [← List.take_append_drop j l]
  rw [List.drop_eq_getElem_cons hl]
  rw [List.getElem?_eq_getElem hl] at h
  rw [Option.some.inj h]
theorem packAt_ok (ow : OwnT) (roots : List Nat) (b j : Nat) (s : St) : WeakV P m s (packAt ow m roots b j s) id := by
  unfold packAt
  split
  case h_2 => exact .refl s
  rename_i blk hb
  split
  · rename_i c n f hj
    split
    · rename_i blk2 hcc hc
      split
      · rename_i hr
        have hne : b ≠ c := by
          simp only [Bool.and_eq_true, Bool.not_eq_true'] at hcc
          intro e
          subst e
          simp at hcc
        exact (prepPack (P := P) (hp := s.hp) (b := b) (c := c) (pr := blk.1.take j) (po := blk.1.drop (j + 1)) (n := n) (f := f) (T := blk.2) (E := blk2.2) (l2 := blk2.1) hne (by rw [hb, ← take_drop_at hj]) (by rw [hc]) hr).weakV
      · exact .refl s
    · exact .refl s
  · rename_i c _ hj
    split
    · rename_i E hn _
      exact (prepNil (P := P) (hp := s.hp) (b := b) (c := c) (pr := blk.1.take j) (po := blk.1.drop (j + 1)) (T := blk.2) (E := E) hn (by rw [hb, ← take_drop_at hj])).weakV
    · exact .refl s
  · exact .refl s
theorem packL_ok (ow : OwnT) (roots : List Nat) : ∀ (k : Nat) (l : List (Nat × Nat × Bool)) (s : St), WeakV P m s (packL ow m roots k l s) id
  | 0, _, s => .refl s
  | _ + 1, [], s => .refl s
  | k + 1, (b, j, first) :: t, s => by
    unfold packL
    split
    · split
      · exact packL_ok ow roots k _ s
      · exact (packAt_ok ow roots b j s).trans' (packL_ok ow roots k t _)
    · exact (packAt_ok ow roots b j s).trans' (packL_ok ow roots k t _)
end

def roomTm : List Nat → St → St
  | [], s => s
  | t :: ts, s => match s.tm.get t with
    | .sl b o n true => roomTm ts ⟨s.tm.put t (.sl b o n false), s.hp, s.wr⟩
    | _ => roomTm ts s
def V.noRoom : V → Bool
  | .dsl 0 true _ => true
  | .lit (.slice none 0 0) => true
  | _ => false
def nilTm : List (Nat × TypeId) → St → St
  | [], s => s
  | (t, E) :: ts, s => match (s.tm.get t).noRoom with
    | true => nilTm ts ⟨s.tm.put t (.sl s.hp.length 0 0 false), s.hp ++ [some ([], E)], s.wr⟩
    | false => nilTm ts s
def packs (ow : OwnT) (m : Nat) (roots : List Nat) (s : St) : St :=
  packL ow m roots 10000 (((reach s.hp 100000 roots (List.range m)).filter fun b => Nat.ble m b || s.wr.contains b).flatMap fun b => places s.hp b) s
def idsO (ow : OwnT) (m : Nat) (roots : List Nat) (s : St) : List Nat :=
  (List.range m ++ (reachO ow s.hp 100000 (roots ++ ((List.range m).flatMap fun b => match s.hp[b]? with | some (some blk) => ownRefs ow blk | _ => [])) []).filter fun b => Nat.ble m b).eraseDups
def packF (P : Program) (ow : Option OwnT) (m : Nat) (keep : List Nat) (v : V) (s : St) : V → V := match ow with
  | some ow => match permOK m (idsO ow m (v.refs ++ keep.flatMap fun i => (s.tm.get i).refs) s) with
    | true => frz P s.hp (idsO ow m (v.refs ++ keep.flatMap fun i => (s.tm.get i).refs) s) m 100
    | false => id
  | none => id
def packO (P : Program) (ow : Option OwnT) (m : Nat) (keep : List Nat) (v : V) (s : St) : St := match ow with
  | some ow => match permOK m (idsO ow m (v.refs ++ keep.flatMap fun i => (s.tm.get i).refs) s) with
    | true =>
      packs ow m ((frz P s.hp (idsO ow m (v.refs ++ keep.flatMap fun i => (s.tm.get i).refs) s) m 100 v).refs ++ keep.flatMap fun i => ((normSt P m keep (idsO ow m (v.refs ++ keep.flatMap fun i => (s.tm.get i).refs) s) s).tm.get i).refs)
        (normSt P m keep (idsO ow m (v.refs ++ keep.flatMap fun i => (s.tm.get i).refs) s) s)
    | false => s
  | none => s
def prepK (P : Program) (m : Nat) (k : Kp) (s : St) : St := packO P k.pk m k.keep .nilp (nilTm k.nils (roomTm k.rooms s))
def normS0 (P : Program) (m : Nat) (k : Kp) (s : St) : St := wrS m k.wr (sealAll m (k.seals m s) (normSt P m k.keep (k.ids m s) s))
def normS (P : Program) (m : Nat) (k : Kp) (s : St) : St := normS0 P m k (prepK P m k s)
def permS (P : Program) (m : Nat) (k : Kp) (s : St) : Bool := permOK m (k.ids m (prepK P m k s))

section
variable {P : Program} {m : Nat}
theorem prepPhantom {hp : Hp} (E : TypeId) : PrepOK P hp (hp ++ [some ([], E)]) [] := by
  refine .of (.new hp _ (by simp)) fun {I μ w} pre => ?_
  have hfresh : μ hp.length = none := pre.fresh _ (Nat.le_refl _) (by simp)
  have hat : ∀ c blk, (hp ++ [some (([] : List V), E)])[c]? = some (some blk) → hp.length ≤ c → c = hp.length ∧ blk = ([], E) := by
    intro c blk h hc
    rcases app_at h with ⟨h1, _⟩ | h
    · omega
    · exact h
  have hno : ∀ k, ¬ (μ.setFt hp.length []).own hp.length k := by
    rintro k (hk | hk)
    · have hk' : μ hp.length = some k := hk
      rw [hfresh] at hk'; cases hk'
    · rw [Mu.setFt_ft] at hk; cases hk
  refine ⟨μ.setFt hp.length [], .refl _, fun _ h => .inl h, .refl _ _, Mu.setFt_le _ _, fun _ _ h => .inl h, fun c _ hn => Mu.setFt_fne _ _ (by rintro rfl; exact hn ⟨Nat.le_refl _, by simp⟩), fun c hc blk h => ?_, fun c hc blk h g hg => ?_, fun c d b1 b2 g hne hc hd h1 h2 g1 g2 => ?_⟩
  · rcases hc with hc | hc
    · cases hc
    · obtain ⟨rfl, rfl⟩ := hat c blk h hc
      exact .inr (.inl ⟨hfresh, by rw [Mu.setFt_ft]⟩)
  · rcases hc with hc | hc
    · obtain ⟨rfl, rfl⟩ := hat c blk h hc
      exact (hno g hg).elim
    · cases hc
  · rcases hc with hc | hc
    · cases hc
    · obtain ⟨rfl, _⟩ := hat c b1 h1 hc
      exact (hno g g1).elim
theorem putTm_ok {s : St} {t : Nat} {v : V} (h : ∀ {I : Nat → Prop} {μ : Mu} {w : World} {u : Value}, V.R P I μ w (s.tm.get t) u → V.R P I μ w v u) : WeakV P m s ⟨s.tm.put t v, s.hp, s.wr⟩ id := by
  refine ⟨fun hp0 e C => ⟨C.len, C.frame, C.alive⟩, fun {hp0 I0 μ0 w0} e {a w Im μ} C => ⟨Im, μ, ⟨fun i => ?_, C.size, C.defers, C.holds, C.inj, C.dom, C.dom0, C.ftd, C.evo, C.le, C.prov, C.len, C.frame, C.alive, C.wal, C.isub, C.igrow, C.ilt, C.ent⟩, fun _ _ h => h⟩⟩
  show V.R P Im μ w ((s.tm.put t v).get i) _
  by_cases hi : t = i
  · subst hi
    rcases s.tm.get_eq t v with h2 | h2
    · rw [h2.1]; exact h (C.tm t)
    · rw [h2]; simp [V.R]
  · rw [s.tm.get_ne v hi]; exact C.tm i
theorem roomTm_ok : ∀ (l : List Nat) (s : St), WeakV P m s (roomTm l s) id
  | [], s => .refl s
  | t :: ts, s => by
    unfold roomTm
    split
    · rename_i b o n ht
      refine (putTm_ok (fun {I μ w u} h => ?_)).trans' (roomTm_ok ts _)
      rw [ht] at h
      simp only [V.R] at h ⊢
      rcases h with ⟨g, cap, e, N, i, q1, q2, q3, q4, _, q5⟩ | h
      · exact .inl ⟨g, cap, e, N, i, q1, q2, q3, q4, by simp, q5⟩
      · exact .inr h
    · exact roomTm_ok ts s
theorem noRoom_R {I : Nat → Prop} {μ : Mu} {w : World} {c : V} {u : Value} (h : c.noRoom = true) (hR : V.R P I μ w c u) : Nilish u := by
  refine nilish_R (P := P) (I := I) (μ := μ) (w := w) (c := c) ?_ hR
  unfold V.noRoom at h
  split at h
  · rfl
  · rfl
  · cases h
theorem nilTm_ok : ∀ (l : List (Nat × TypeId)) (s : St), WeakV P m s (nilTm l s) id
  | [], s => .refl s
  | (t, E) :: ts, s => by
    unfold nilTm
    split
    · rename_i ht
      have h1 := (prepPhantom (P := P) (hp := s.hp) E).weakV (m := m) (s := s)
      rw [List.append_nil] at h1
      have h2 : WeakV P m (⟨s.tm, s.hp ++ [some ([], E)], s.wr⟩ : St) ⟨s.tm.put t (.sl s.hp.length 0 0 false), s.hp ++ [some ([], E)], s.wr⟩ id := putTm_ok (fun {I μ w u} h => by
        simp only [V.R]
        exact .inr ⟨trivial, trivial, noRoom_R ht h⟩)
      exact (h1.trans' h2).trans' (nilTm_ok ts _)
    · exact nilTm_ok ts s
theorem packO_ok (ow : Option OwnT) (keep : List Nat) (v : V) (s : St) : WeakV P m s (packO P ow m keep v s) (packF P ow m keep v s) := by
  unfold packO packF
  split
  · split
    · rename_i hp
      have h1 := norm_weakV (P := P) (m := m) (keep := keep) (s := s) hp
      exact h1.trans (packL_ok (P := P) (m := m) _ _ _ _ _)
    · exact .refl s
  · exact .refl s
theorem prepK_ok (k : Kp) (s : St) : ∃ f, WeakV P m s (prepK P m k s) f := ⟨_, ((roomTm_ok _ _).trans' (nilTm_ok _ _)).trans (packO_ok _ _ _ _)⟩
theorem normS_weak {k : Kp} {s : St} (hp : permS P m k s = true) : Weak P m s (normS P m k s) := (prepK_ok k s).choose_spec.weak.trans (((norm_weak hp).trans (sealAll_weak _ _)).trans wrS_same.weak)
end

end Go.Proofs.YtfncaghjfgnnhaaGreatDoor

namespace Go.Proofs.YtfncaghjfgnnhaaGreatDoor
open Go.RowKit

def All : List Prop → Prop
  | [] => True
  | p :: ps => p ∧ All ps
theorem All.append : ∀ {ps qs : List Prop}, All (ps ++ qs) → All ps ∧ All qs
  | [], _, h => ⟨trivial, h⟩
  | _ :: _, _, h => ⟨⟨h.1, (All.append h.2).1⟩, (All.append h.2).2⟩

section
variable {P : Program}

structure SoundC (P : Program) (m : Nat) (c : Code) (s : St) (ex : Ex) (s' : St) : Prop where
  st : ∀ hp0 : Hp, hp0.length = m → SR hp0 s → SR hp0 s'
  run : ∀ {hp0 : Hp} {I0 : Nat → Prop} {μ0 : Mu} {w0 : World}, hp0.length = m → ∀ {a : Act} {w : World} {Im : Nat → Prop} {μ : Mu}, CI P hp0 I0 μ0 w0 s a w Im μ →
    ∀ {Q : Exit → Act → World → Prop}, (∀ a' w' μ' Im', CI P hp0 I0 μ0 w0 s' a' w' Im' μ' → Q ex.toExit a' w') → c.wp P Q a w

theorem SoundC.skip {m : Nat} {s : St} : SoundC P m .skip s .normal s := ⟨fun _ _ h => h, fun _ _ _ _ _ C _ hQ => wp_skip (hQ _ _ _ _ C)⟩
theorem SoundC.exit {m id : Nat} {s : St} : SoundC P m (.exit id) s (.exit id) s := ⟨fun _ _ h => h, fun _ _ _ _ _ C _ hQ => wp_exit (hQ _ _ _ _ C)⟩
theorem SoundC.ret {m : Nat} {s : St} : SoundC P m .ret s .ret s := ⟨fun _ _ h => h, fun _ _ _ _ _ C _ hQ => wp_ret (hQ _ _ _ _ C)⟩
theorem SoundC.region (hm : P.follows .mixedOrders = true) (hn : Named P) {ops : Array Oper} {m id : Nat} {draw : Bool} {s s' : St} {l : List Rec} (hl : TraceR P ops ops.toList s l s') (hd : draw = true → drawOK ops l s' = true) : SoundC P m (.region id ops draw) s .normal s' :=
  ⟨fun _ _ h => region_static hl h, fun _ _ _ _ _ C _ hQ => region_sound hm hn hl hd C hQ⟩
theorem SoundC.seq {m : Nat} {x y : Code} {s s1 s2 : St} {ex : Ex} (h : SoundC P m x s .normal s1) (k : SoundC P m y s1 ex s2) : SoundC P m (.seq x y) s ex s2 :=
  ⟨fun hp0 e hs => k.st hp0 e (h.st hp0 e hs), fun e _ _ _ _ C _ hQ => wp_seq (h.run e C fun _ _ _ _ C' => k.run e C' hQ)⟩
theorem SoundC.seq_out {m : Nat} {x y : Code} {s s1 : St} {ex : Ex} (h : SoundC P m x s ex s1) (hne : ex ≠ .normal) : SoundC P m (.seq x y) s ex s1 :=
  ⟨h.st, fun e _ _ _ _ C _ hQ => wp_seq (h.run e C fun a' w' μ' Im' C' => by
    have := hQ a' w' μ' Im' C'
    cases ex with
    | normal => exact absurd rfl hne
    | exit _ => exact this
    | ret => exact this)⟩
theorem SoundC.block_in {m id : Nat} {c : Code} {s s1 : St} (h : SoundC P m c s (.exit id) s1) : SoundC P m (.block id c) s .normal s1 :=
  ⟨h.st, fun e _ _ _ _ C _ hQ => wp_block (h.run e C fun a' w' μ' Im' C' => by
    simp only [Ex.toExit, Exit.inBlock, if_true]; exact hQ a' w' μ' Im' C')⟩
theorem SoundC.block_out {m id : Nat} {c : Code} {s s1 : St} {ex : Ex} (h : SoundC P m c s ex s1) (hne : ex ≠ .exit id) : SoundC P m (.block id c) s ex s1 :=
  ⟨h.st, fun e _ _ _ _ C _ hQ => wp_block (h.run e C fun a' w' μ' Im' C' => by
    have := hQ a' w' μ' Im' C'
    cases ex with
    | normal => exact this
    | exit i =>
      simp only [Ex.toExit, Exit.inBlock]
      rw [if_neg (fun e => hne (by rw [e]))]
      exact this
    | ret => exact this)⟩

theorem SoundC.pre {m : Nat} {c : Code} {s s0 s' : St} {ex : Ex} (h : Weak P m s s0) (k : SoundC P m c s0 ex s') : SoundC P m c s ex s' :=
  ⟨fun hp0 e hs => k.st hp0 e (h.st hp0 e hs), fun e _ _ _ _ C _ hQ => by
    obtain ⟨_, _, C'⟩ := h.run e C
    exact k.run e C' hQ⟩
theorem SoundC.post {m : Nat} {c : Code} {s s0 s' : St} {ex : Ex} (k : SoundC P m c s ex s0) (h : Weak P m s0 s') : SoundC P m c s ex s' :=
  ⟨fun hp0 e hs => h.st hp0 e (k.st hp0 e hs), fun e _ _ _ _ C _ hQ => k.run e C fun a' w' _ _ C' => by
    obtain ⟨_, _, C''⟩ := h.run e C'
    exact hQ a' w' _ _ C''⟩

theorem SoundC.loop {m : Nat} {body : Code} {ex : Ex} {s' : St} (inv : Nat → St) (N : Nat) (hstep : ∀ k, k < N → SoundC P m body (inv k) .normal (inv (k + 1))) (hend : SoundC P m body (inv N) ex s') (hne : ex ≠ .normal) :
    SoundC P m (.loop body) (inv 0) ex s' := by
  have key : ∀ d k, k + d = N → (∀ hp0 : Hp, hp0.length = m → SR hp0 (inv k) → SR hp0 s') ∧
      ∀ {hp0 : Hp} {I0 : Nat → Prop} {μ0 : Mu} {w0 : World}, hp0.length = m → ∀ {a : Act} {w : World} {Im : Nat → Prop} {μ : Mu}, CI P hp0 I0 μ0 w0 (inv k) a w Im μ →
        ∀ {Q : Exit → Act → World → Prop}, (∀ a' w' μ' Im', CI P hp0 I0 μ0 w0 s' a' w' Im' μ' → Q ex.toExit a' w') → Code.rounds P body Q (d + 1) a w := by
    intro d
    induction d with
    | zero =>
      intro k hk
      obtain rfl : k = N := by omega
      refine ⟨hend.st, fun e _ _ _ _ C Q hQ => ?_⟩
      rw [rounds_succ]
      refine hend.run e C fun a' w' μ' Im' C' => ?_
      have := hQ a' w' μ' Im' C'
      cases ex with
      | normal => exact absurd rfl hne
      | exit i => exact this
      | ret => exact this
    | succ d ih =>
      intro k hk
      obtain ⟨h1, h2⟩ := ih (k + 1) (by omega)
      have hs := hstep k (by omega)
      refine ⟨fun hp0 e h => h1 hp0 e (hs.st hp0 e h), fun e _ _ _ _ C Q hQ => ?_⟩
      rw [rounds_succ]
      exact hs.run e C fun a' w' μ' Im' C' => h2 e C' hQ
  obtain ⟨h1, h2⟩ := key N 0 (by omega)
  exact ⟨h1, fun e _ _ _ _ C _ hQ => wp_loop_rounds (N + 1) (h2 e C hQ)⟩

inductive LoopTo (P : Program) (m : Nat) (body : Code) : St → Ex → St → Prop where
  | done {s s' : St} {ex : Ex} (h : SoundC P m body s ex s') (hne : ex ≠ .normal) : LoopTo P m body s ex s'
  | step {s s1 s' : St} {ex : Ex} (h : SoundC P m body s .normal s1) (k : LoopTo P m body s1 ex s') : LoopTo P m body s ex s'

theorem SoundC.loopTo {m : Nat} {body : Code} {s s' : St} {ex : Ex} (h : LoopTo P m body s ex s') : SoundC P m (.loop body) s ex s' := by
  have key : ∃ N, (∀ hp0 : Hp, hp0.length = m → SR hp0 s → SR hp0 s') ∧
      ∀ {hp0 : Hp} {I0 : Nat → Prop} {μ0 : Mu} {w0 : World}, hp0.length = m → ∀ {a : Act} {w : World} {Im : Nat → Prop} {μ : Mu}, CI P hp0 I0 μ0 w0 s a w Im μ →
        ∀ {Q : Exit → Act → World → Prop}, (∀ a' w' μ' Im', CI P hp0 I0 μ0 w0 s' a' w' Im' μ' → Q ex.toExit a' w') → Code.rounds P body Q N a w := by
    induction h with
    | @done s s' ex h hne =>
      refine ⟨1, h.st, fun e _ _ _ _ C Q hQ => ?_⟩
      rw [rounds_succ]
      refine h.run e C fun a' w' μ' Im' C' => ?_
      have := hQ a' w' μ' Im' C'
      cases ex with
      | normal => exact absurd rfl hne
      | exit i => exact this
      | ret => exact this
    | @step s s1 s' ex h k ih =>
      obtain ⟨N, h1, h2⟩ := ih
      refine ⟨N + 1, fun hp0 e hs => h1 hp0 e (h.st hp0 e hs), fun e _ _ _ _ C Q hQ => ?_⟩
      rw [rounds_succ]
      exact h.run e C fun a' w' μ' Im' C' => h2 e C' hQ
  obtain ⟨N, h1, h2⟩ := key
  exact ⟨h1, fun e _ _ _ _ C _ hQ => wp_loop_rounds N (h2 e C hQ)⟩


end

def bodyOf (P : Program) (f : FuncId) : Code := match P.funcs[f]? with
  | some fn => match fn.body with
    | some c => c
    | none => .skip
  | none => .skip
def findBlock (id : Nat) : Code → Option Code
  | .seq x y => match findBlock id x with
    | some c => some c
    | none => findBlock id y
  | .cond _ x y => match findBlock id x with
    | some c => some c
    | none => findBlock id y
  | .block i c => if Nat.beq i id then some c else findBlock id c
  | .loop c => findBlock id c
  | _ => none
def lp (P : Program) (f : FuncId) (id : Nat) : Code := match findBlock id (bodyOf P f) with
  | some (.loop c) => c
  | _ => .skip
def blk (P : Program) (f : FuncId) (id : Nat) : Code := match findBlock id (bodyOf P f) with
  | some c => c
  | _ => .skip

def outEx (id : Nat) : Ex → Ex
  | .exit i => if i = id then .normal else .exit i
  | e => e

def namedB (P : Program) : Bool := P.funcs.toList.all fun fn => fn.name != "runtime.NumGoroutine"
theorem named_of {P : Program} (h : namedB P = true) : Named P := by
  intro f fn hf
  have := List.all_eq_true.1 h fn (by
    obtain ⟨hlt, e⟩ := Array.getElem?_eq_some_iff.1 hf
    rw [← e]; simp)
  simpa using this


section
variable {P : Program}

theorem SoundC.cond {m : Nat} {c : Operand} {x y : Code} {s s' : St} {ex : Ex} {b : Bool} (hb : evalV s.tm c = .bool b) (h : SoundC P m (if b then x else y) s ex s') : SoundC P m (.cond c x y) s ex s' := by
  refine ⟨h.st, fun {hp0 I0 μ0 w0} e {a w Im μ} C {Q} hQ => ?_⟩
  have hR : V.R P Im μ w (evalV s.tm c) (a.eval c) := by
    cases c with
    | tmp t => exact C.tm t
    | const v => exact R_ofValue v
    | global g => simp [evalV, V.R]
    | func f => simp [evalV, Act.eval, V.R, V.RL]
  rw [hb] at hR
  simp only [V.R] at hR
  cases b with
  | true => exact wp_cond_true hR (h.run e C hQ)
  | false => exact wp_cond_false hR (h.run e C hQ)

theorem SoundC.block {m id : Nat} {c : Code} {s s1 : St} {ex : Ex} (h : SoundC P m c s ex s1) : SoundC P m (.block id c) s (outEx id ex) s1 := by
  cases ex with
  | normal => exact h.block_out (by simp)
  | ret => exact h.block_out (by simp)
  | exit i =>
    simp only [outEx]
    split
    · rename_i e; subst e; exact h.block_in
    · rename_i e; exact h.block_out (by simpa using e)

theorem fnOK_of {f : FuncId} {fn : Func} {c : Code} {vs : List V} {hp : Hp} {ex : Ex} {s : St} {v : List V} {r : Ret} (hfn : P.funcs[f]? = some fn) (hc : fn.body = some c)
    (h : SoundC P hp.length c ⟨Tm.start (vs.length + (fn.ntmps - vs.length)) vs, hp, []⟩ ex s) (hex : ex = .normal ∨ ex = .ret) (hres : evResultL P s.hp s.tm fn.results.toList = some v)
    (ht : SR hp s → FnTidy hp r)
    (hg : ∀ {I Im : Nat → Prop} {μ μ' : Mu} {w w' : World} {a : Act} {val : Value}, CI P hp I μ w s a w' Im μ' → V.R P Im μ' w' (oneOf v) val → ∃ μr Ir, V.R P Ir μr w' r.v val ∧ Good P I Ir μ μr w w' hp r.hp (List.range hp.length) r.wr) : FnOK P f vs hp r := by
  have hst : SR hp s := h.st hp rfl ⟨Nat.le_refl _, fun _ _ _ => rfl, fun _ _ h => h⟩
  refine ⟨ht hst, fun I w μ vals hvals pre hdom => ?_⟩
  have hh : ∀ b blk, hp[b]? = some (some blk) → Holds P I μ w b blk := fun b blk hb => pre.holds b (by simpa using at_lt hb) blk hb
  have hinj : ∀ b c blk blk' g, b ≠ c → hp[b]? = some (some blk) → hp[c]? = some (some blk') → μ.own b g → μ.own c g → False := fun b c b1 b2 g hne hb hc => pre.inj b (by simpa using at_lt hb) c (by simpa using at_lt hc) b1 b2 g hne hb hc
  have hvl := hvals.length
  simp at hvl
  have C0 : CI P hp I μ w ⟨Tm.start (vs.length + (fn.ntmps - vs.length)) vs, hp, []⟩ { tmps := vals ++ Array.replicate (fn.ntmps - vals.size) undef, defers := [] } w I μ := by
    refine ⟨fun t => ?_, by simp [hvl, Tm.start, Tm.fill_n], rfl, hh, hinj, hdom, fun b g hg _ => hg, fun _ _ _ => rfl, .refl _ _, .refl _, fun b hb blk hblk => ?_, Nat.le_refl _, fun _ _ _ => rfl, fun _ _ h => h, by simp, .refl _, fun k h => .inl h, pre.ilt, ⟨hh, hinj, hdom⟩⟩
    · rcases Tm.start_get (vs.length + (fn.ntmps - vs.length)) vs t with e | e
      · show V.R P I μ w ((Tm.start (vs.length + (fn.ntmps - vs.length)) vs).get t) _
        rw [e]; simp [V.R]
      · have ht : t < vs.length := (List.getElem?_eq_some_iff.1 e).1
        obtain ⟨u, hu, hR⟩ := hvals.get e
        rw [Array.getElem?_toList] at hu
        rw [Array.getD_eq_getD_getElem?, Array.getElem?_append, if_pos (by omega), hu]
        exact hR
    · have := at_lt (hp := hp) hblk
      rcases hb with hb | hb
      · omega
      · cases hb
  refine calls_of_wp hfn hc ?_
  refine h.run rfl C0 fun a' w' μ' Im' C => ?_
  obtain ⟨val, hr, hR⟩ := results_sound (fn := fn) C.tm C.holds C.ilt C.inj hres
  obtain ⟨μr, Ir, hR', hG⟩ := hg C hR
  rcases hex with rfl | rfl
  · exact ⟨C.defers, val, hr, val, μr, Ir, rfl, hR', hG⟩
  · exact ⟨C.defers, val, hr, val, μr, Ir, rfl, hR', hG⟩
theorem fnOK_code {f : FuncId} {fn : Func} {c : Code} {vs : List V} {hp : Hp} {ex : Ex} {s : St} {v : List V} {r : Ret} (hfn : P.funcs[f]? = some fn) (hc : fn.body = some c)
    (h : SoundC P hp.length c ⟨Tm.start (vs.length + (fn.ntmps - vs.length)) vs, hp, []⟩ ex s) (hex : ex = .normal ∨ ex = .ret) (hres : evResultL P s.hp s.tm fn.results.toList = some v)
    {s' : St} {g : V → V} (hw : WeakV P hp.length s s' g) {ids seals : List Nat} (hids : permOK hp.length ids = true) (hr : gc P hp.length ids seals (g (oneOf v)) s' = r) : FnOK P f vs hp r := by
  subst hr
  refine fnOK_of hfn hc h hex hres (fun hst => gc_tidy hids (hw.st hp rfl hst)) fun C hR => ?_
  obtain ⟨Im2, μ2, C2, hV⟩ := hw.run rfl C
  exact gc_sound hids C2 (hV _ _ hR)

end
end Go.Proofs.YtfncaghjfgnnhaaGreatDoor

namespace Go.Proofs.YtfncaghjfgnnhaaGreatDoor
open Go.RowKit

def encs {α : Type} (enc : α → List V) (L : List α) : List V := L.flatMap enc
open Classical in
noncomputable def decL {α : Type} (enc : α → List V) (cs : List V) : List α := if h : ∃ L, encs enc L = cs then h.choose else []

abbrev Vw := TypeId → List V → Nat → Option (List V)

inductive SO where
  | one (ps : List Prop) (o : Out)
  | two (c : Bool) (ps : List Prop) (o : Out) (qs : List Prop) (o' : Out)
  | no

def SO.OK (r : Option Out) : SO → Prop
  | .one ps o => All ps → r = some o
  | .two c ps o qs o' => (c = true → All ps → r = some o) ∧ (c = false → All qs → r = some o')
  | .no => True

def ofOpt : Option Out → SO
  | some o => .one [] o
  | none => .no
theorem ofOpt_ok (r : Option Out) : (ofOpt r).OK r := by
  cases r with
  | none => trivial
  | some o => exact fun _ => rfl

def sIndexAddr (P : Program) (vw : Vw) (hp : Hp) (t : TypeId) (x i : V) : SO :=
  match x, i, P.underlying t with
  | .dsl n _ cs, .int _ k, some (.slice el) => match szOf P el, vw el cs k.toNat with
    | some s, some v => .one [0 ≤ k ∧ k < n, (cs.drop (k.toNat * s)).take v.length = v] ⟨.dptr (v ++ cs.drop (k.toNat * s + v.length)), hp, [], []⟩
    | some s, none => .one [0 ≤ k ∧ k < n] ⟨.dptr (cs.drop (k.toNat * s)), hp, [], []⟩
    | _, _ => .no
  | .sl b off n _, .int _ k, some (.slice el) => match szOf P el with
    | some s => .one [0 ≤ k ∧ k < n] ⟨.eptr b (off + k.toNat * s) 0, hp, [], []⟩
    | none => .no
  | _, _, _ => .no

def sIndex (P : Program) (hp : Hp) (t : TypeId) (x i : V) : SO :=
  match x, i, P.underlying t with
  | .str l, .int _ k, some .string => .one [0 ≤ k ∧ k < l.length] ⟨.int .u8 ((l.getD k.toNat 0).toNat : Nat), hp, [], []⟩
  | _, _, _ => .no

def sBound (x : Option V) (d lim : Nat) : Option (List Prop × Nat) :=
  match x with
  | none => some ([], d)
  | some (.int _ i) => some ([0 ≤ i ∧ i ≤ lim], i.toNat)
  | _ => none

def sSlice (P : Program) (hp : Hp) (t : TypeId) (x : V) (lo hi mx : Option V) : SO :=
  match x, mx with
  | .str l, none =>
    match P.underlying t, sBound hi l.length l.length with
    | some .string, some (ps, h) => match sBound lo 0 h with
      | some (qs, k) => .one (ps ++ qs) ⟨.str ((l.take h).drop k), hp, [], []⟩
      | none => .no
    | _, _ => .no
  | .dsl n full cs, none =>
    match P.underlying t, sBound hi n n with
    | some (.slice e), some (ps, h) => match sBound lo 0 h, szOf P e with
      | some (qs, k), some s => .one (ps ++ qs) ⟨.dsl (h - k) (full && h == n) ((cs.take (h * s)).drop (k * s)), hp, [], []⟩
      | _, _ => .no
    | _, _ => .no
  | .sl b off n full, none =>
    match P.underlying t, sBound hi n n, hp[b]? with
    | some (.slice e), some (ps, h), some (some blk) => match sBound lo 0 h, szOf P e, blk.2 == e with
      | some (qs, k), some s, true =>
        match lo with
        | none => .one (ps ++ qs) ⟨.sl b off h (full && h == n), hp, [b], []⟩
        | some _ => .two (decide (k < h)) (ps ++ qs) ⟨.sl b (off + k * s) (h - k) (full && h == n), hp, [b], []⟩ (ps ++ qs) ⟨.dsl 0 (full && h == n) [], hp, [b], []⟩
      | _, _, _ => .no
    | _, _, _ => .no
  | .dsl n _ cs, some m =>
    match P.underlying t, sBound (some m) 0 n, hi with
    | some (.slice e), some (ps, m), some hi => match sBound (some hi) 0 m with
      | some (qs, h) => match sBound lo 0 h, szOf P e with
        | some (rs, k), some s => .one (ps ++ qs ++ rs) ⟨.dsl (h - k) (m == h) ((cs.take (h * s)).drop (k * s)), hp, [], []⟩
        | _, _ => .no
      | none => .no
    | _, _, _ => .no
  | x, mx => ofOpt (evSlice P hp t x lo hi mx)

def sSrc (hp : Hp) (size : Nat) : V → Option (List Prop × List Nat × Nat × List V)
  | .dsl m _ cs => some ([cs.length = m * size, cs.all V.one = true], [], m, [.sld cs])
  | .sl b off m full =>
    match hp[b]? with
    | some (some blk) => match hasSeal blk.1 with
      | true => some ([off = 0, (flat blk.1).length = m * size, (flat blk.1).all V.one = true], [b], m, blk.1)
      | false => match srcV hp size (.sl b off m full) with
        | some (bs, m, news) => some ([], bs, m, news)
        | none => none
    | _ => none
  | _ => none

def sAppend (P : Program) (hp : Hp) (t t' : TypeId) (s x : V) : SO :=
  match P.underlying t with
  | some (.slice elem) =>
    match P.info? elem with
    | some i =>
      match i.zero, t == t' with
      | some z, true =>
        match decide (0 < i.size ∧ z.cells.size = i.size), sSrc hp i.size x with
        | true, some (ps, bs, m, news) =>
          match s with
          | .sl b off n _ =>
            match hp[b]? with
            | some (some blk) =>
              match blk.2 == elem with
              | true => .one (ps ++ [off = 0, (flat blk.1).length = n * i.size, n + m ≤ maxLen, (n + m) * i.bytes ≤ 140737488355328])
                  ⟨.sl hp.length 0 (n + m) false, hp.set b none ++ [some (blk.1 ++ news, elem)], b :: bs, [b]⟩
              | false => .no
            | _ => .no
          | .dsl n full cs =>
            .two (m == 0) ps ⟨.dsl n full cs, hp, bs, []⟩ (ps ++ [full = true, cs.length = n * i.size, n + m ≤ maxLen, (n + m) * i.bytes ≤ 140737488355328])
              ⟨.sl hp.length 0 (n + m) false, hp ++ [some (.sld cs :: news, elem)], bs, []⟩
          | _ => .no
        | _, _ => .no
      | _, _ => .no
    | none => .no
  | _ => .no

def sEqs (P : Program) (xs ys : List V) : List Field → Option Bool
  | [] => some true
  | f :: fs =>
    match f.name == "_", xs[f.offset]?, ys[f.offset]? with
    | false, some x, some y =>
      match flatEq P f x y, sEqs P xs ys fs with
      | some a, some b => some (a && b)
      | _, _ => none
    | _, _, _ => none

def sBin (P : Program) (hp : Hp) (op : BinOp) (t : TypeId) (x y : V) : SO :=
  match x, y with
  | .str a, .str b => match op with
    | .add => .one [a.length + b.length ≤ 4611686018427387904] ⟨.str (a ++ b), hp, [], []⟩
    | op => ofOpt ((evStr op a b).map fun v => ⟨v, hp, [], []⟩)
  | .int k a, .int k' b => match op with
    | .quo => match decide (k = k') with
      | true => .one [b ≠ 0] ⟨.int k (k.wrap (a.tdiv b)), hp, [], []⟩
      | false => .no
    | .rem => match decide (k = k') with
      | true => .one [b ≠ 0] ⟨.int k (a.tmod b), hp, [], []⟩
      | false => .no
    | op => ofOpt ((evBin P op t (.int k a) (.int k' b)).map fun v => ⟨v, hp, [], []⟩)
  | .agg xs, .agg ys => match P.underlying t, P.stoodInHeld t, P.eqGuardType P.depth t, op with
    | some (.struct fs), false, false, .eql => match sEqs P xs ys fs.toList with
      | some r => .one [] ⟨.bool r, hp, [], []⟩
      | none => .no
    | some (.struct fs), false, false, .neq => match sEqs P xs ys fs.toList with
      | some r => .one [] ⟨.bool (!r), hp, [], []⟩
      | none => .no
    | _, _, _, _ => .no
  | x, y => ofOpt ((evBin P op t x y).map fun v => ⟨v, hp, [], []⟩)

def encByte (b : UInt8) : List V := [.int .u8 (b.toNat : Nat)]
def byts (l : List UInt8) : List V := l.map fun b => V.int .u8 (b.toNat : Nat)

noncomputable def bytesSeg : List V → Option (List Prop × List UInt8)
  | [] => some ([], [])
  | x :: t => match x, bytesSeg t with
    | .sld c, some (ps, l) => some ((c = byts (decL encByte c)) :: ps, decL encByte c ++ l)
    | .int .u8 n, some (ps, l) => some ((0 ≤ n ∧ n < 256) :: ps, UInt8.ofNat n.toNat :: l)
    | _, _ => none

noncomputable def sConv (P : Program) (hp : Hp) (s d : TypeId) (x : V) : SO :=
  match x with
  | .dsl n _ cs => match P.underlying s, P.underlying d with
    | some (.slice e), some .string => match P.underlying e with
      | some (.int .u8) => .one [cs = byts (decL encByte cs), (decL encByte cs).length = n] ⟨.str (decL encByte cs), hp, [], []⟩
      | _ => .no
    | _, _ => .no
  | .sl b off n full => match P.underlying s, P.underlying d with
    | some (.slice e), some .string => match P.underlying e, hp[b]? with
      | some (.int .u8), some (some blk) => match bytesSeg blk.1 with
        | some (ps, l) => .one (ps ++ [off = 0, l.length = n]) ⟨.str l, hp, [b], []⟩
        | none => .no
      | _, _ => .no
    | _, _ => .no
  | .str l => match P.underlying s, P.underlying d with
    | some .string, some (.slice e) => match P.underlying e, P.info? e with
      | some (.int .u8), some i => match decide (i.size = 1) with
        | true => .one [l.length ≤ maxLen] ⟨.sl hp.length 0 l.length false, hp ++ [some ([.sld (byts l)], e)], [], []⟩
        | false => .no
      | _, _ => .no
    | _, _ => ofOpt (evConv P hp s d (.str l))
  | x => ofOpt (evConv P hp s d x)

def sMake (P : Program) (hp : Hp) (t : TypeId) (l c : V) : SO :=
  match l, c with
  | .int _ l, .int _ c =>
    match P.underlying t with
    | some (.slice elem) =>
      match P.info? elem with
      | some i =>
        match i.zero with
        | some z =>
          match decide (i.bytes ≤ 1048576 ∧ 0 < i.size ∧ z.cells.size = i.size) with
          | true => .one [0 ≤ l ∧ l ≤ c ∧ c ≤ 1048576] ⟨.sl hp.length 0 l.toNat (l == c), hp ++ [some ([.sld (zeros (z.cells.toList.map ofScalar) (c.toNat * i.size))], elem)], [], []⟩
          | false => .no
        | none => .no
      | none => .no
    | _ => .no
  | _, _ => .no

def sLoad (P : Program) (vw : Vw) (hp : Hp) (t : TypeId) (x : V) : SO :=
  match x with
  | .ptr b o => match hp[b]? with
    | some (some blk) => match hasSeal blk.1 && rowT blk.2 with
      | true => match P.underlying t, szOf P t with
        | some d, some s => match vw t (flat blk.1) (o / s) with
          | some v => match v.length == s, rowD d, v, noOs v with
            | true, true, v, true => .one [((flat blk.1).drop o).take s = v] ⟨.agg v, hp, [b], []⟩
            | true, false, [c], true => .one [((flat blk.1).drop o).take s = [c]] ⟨c, hp, [b], []⟩
            | _, _, _, _ => .no
          | none => ofOpt (evLoad P hp t (.ptr b o))
        | _, _ => .no
      | false => ofOpt (evLoad P hp t (.ptr b o))
    | _ => .no
  | .eptr b base rel => match hp[b]? with
    | some (some blk) => match hasSeal blk.1 && rowT blk.2 with
      | true => match P.underlying t, szOf P t, szOf P blk.2 with
        | some d, some s, some es => match vw blk.2 (flat blk.1) (base / es) with
          | some v => match v.length == es, rowD d, (v.drop rel).take s with
            | true, true, u => match u.length == s, noOs u with
              | true, true => .one [((flat blk.1).drop base).take es = v] ⟨.agg u, hp, [b], []⟩
              | _, _ => .no
            | true, false, c :: _ => match c.isO with
              | false => .one [((flat blk.1).drop base).take es = v] ⟨c, hp, [b], []⟩
              | true => .no
            | _, _, _ => .no
          | none => ofOpt (evLoad P hp t (.eptr b base rel))
        | _, _, _ => .no
      | false => ofOpt (evLoad P hp t (.eptr b base rel))
    | _ => .no
  | x => ofOpt (evLoad P hp t x)

def sStoreAt (P : Program) (hp : Hp) (t : TypeId) (x : V) (b o : Nat) (y : V) : SO :=
  match hp[b]? with
    | some (some blk) => match hasSeal blk.1 && rowT blk.2 with
      | true => match szOf P t with
        | some s => match y.flat, decide ((cellsV y).length = s), (cellsV y).all V.one, V.refsL blk.1 with
          | true, true, true, [] => .one [o + s ≤ (flat blk.1).length] ⟨.junk, hp.set b (some (mkS (hasO blk.1) ((flat blk.1).take o) :: (cellsV y ++ [mkS (hasO blk.1) ((flat blk.1).drop (o + s))]), blk.2)), [b], [b]⟩
          | _, _, _, _ => .no
        | none => .no
      | false => ofOpt (evStore P hp t x y)
    | _ => .no
def sStore (P : Program) (hp : Hp) (t : TypeId) (x y : V) : SO :=
  match x with
  | .ptr b o => sStoreAt P hp t (.ptr b o) b o y
  | .eptr b base rel => offs base rel fun o => sStoreAt P hp t (.eptr b base rel) b o y
  | x => ofOpt (evStore P hp t x y)

noncomputable def evOpS (P : Program) (vw : Vw) (e : Operand → V) (hp : Hp) : Op → SO
  | .indexAddr t x i => sIndexAddr P vw hp t (e x) (e i)
  | .index t x i => sIndex P hp t (e x) (e i)
  | .slice t x lo hi mx => sSlice P hp t (e x) (lo.map e) (hi.map e) (mx.map e)
  | .binOp op t x y _ => sBin P hp op t (e x) (e y)
  | .convert s d x => sConv P hp s d (e x)
  | .makeSlice t l c => sMake P hp t (e l) (e c)
  | .load t x => sLoad P vw hp t (e x)
  | .store t x y => sStore P hp t (e x) (e y)
  | .pick c a b => match e c with
    | .bool t => .two t [] ⟨e a, hp, [], []⟩ [] ⟨e b, hp, [], []⟩
    | _ => .no
  | .call c => match c.callee, c.args.toList, c.argTypes.toList with
    | .builtin .append, [s, x], [t, t'] => sAppend P hp t t' (e s) (e x)
    | _, _, _ => ofOpt (evPlain P e hp (.call c))
  | op => ofOpt (evPlain P e hp op)

def sCopy (P : Program) (hp : Hp) (t : TypeId) (s x : V) : SO :=
  match P.underlying t with
  | some (.slice elem) =>
    match P.info? elem, s with
    | some i, .sl b off n _ =>
      match hp[b]?, srcV hp i.size x with
      | some (some blk), some (bs, m, news) =>
        match decide (0 < m ∧ 0 < i.size), spliceV blk.1 off (m * i.size) (flat news) with
        | true, some l => .one [m ≤ n, off + m * i.size ≤ (flat blk.1).length] ⟨.int .i64 m, hp.set b (some (l, blk.2)), b :: bs, [b]⟩
        | _, _ => .no
      | _, _ => .no
    | _, _ => .no
  | _ => .no
def sArr (P : Program) (hp : Hp) (t : TypeId) (x i : V) : SO :=
  match P.underlying t, x, i with
  | some (.array n el), .ptr b off, .int _ i => match szOf P el with
    | some s => .one [0 ≤ i ∧ i < n] ⟨.ptr b (off + i.toNat * s), hp, [], []⟩
    | none => .no
  | _, _, _ => .no
def sMore (P : Program) (e : Operand → V) (hp : Hp) : Op → SO
  | .indexAddr t x i => sArr P hp t (e x) (e i)
  | .call c => match c.callee, c.args.toList, c.argTypes.toList with
    | .builtin .copy, [s, x], [t, _] => sCopy P hp t (e s) (e x)
    | _, _, _ => ofOpt (evMore P e hp (.call c))
  | op => ofOpt (evMore P e hp op)

section
variable {P : Program} {vw : Vw} {hp : Hp}

theorem take_len {α : Type} {cs v : List α} {k : Nat} (h : (cs.drop k).take v.length = v) : cs.drop k = v ++ cs.drop (k + v.length) := by
  conv => lhs; rw [← List.take_append_drop v.length (cs.drop k)]
  rw [h, List.drop_drop]

theorem sBound_ok {x : Option V} {d lim : Nat} {ps : List Prop} {k : Nat} (h : sBound x d lim = some (ps, k)) (ha : All ps) : evBound x d lim = some k := by
  unfold sBound at h
  split at h
  · cases h; rfl
  · cases h
    simp only [evBound]
    rw [if_pos ha.1]
  · cases h

theorem sIndexAddr_ok {e : Operand → V} {t : TypeId} {x i : Operand} : (sIndexAddr P vw hp t (e x) (e i)).OK (evPlain P e hp (.indexAddr t x i)) := by
  generalize h : sIndexAddr P vw hp t (e x) (e i) = so
  unfold sIndexAddr at h
  split at h
  · rename_i n full cs kk k el hx hi hu
    split at h
    · rename_i s v hs hv
      subst h; intro ha
      simp only [evPlain, hx, hi, hu, hs]
      rw [if_pos ha.1, take_len ha.2.1]
    · rename_i s hs hv
      subst h; intro ha
      simp only [evPlain, hx, hi, hu, hs]
      rw [if_pos ha.1]
    · subst h; trivial
  · rename_i b off n full kk k el hx hi hu
    split at h
    · rename_i s hs
      subst h; intro ha
      simp only [evPlain, hx, hi, hu, hs]
      rw [if_pos ha.1]
    · subst h; trivial
  · subst h; trivial

theorem sIndex_ok {e : Operand → V} {t : TypeId} {x i : Operand} : (sIndex P hp t (e x) (e i)).OK (evPlain P e hp (.index t x i)) := by
  generalize h : sIndex P hp t (e x) (e i) = so
  unfold sIndex at h
  split at h
  · rename_i l kk k hx hi hu
    subst h; intro ha
    obtain ⟨⟨h1, h2⟩, _⟩ := ha
    simp only [evPlain, hx, hi, evIndex, hu]
    rw [if_pos h1, List.getElem?_eq_getElem (by omega)]
    simp only [Option.map_some]
    rw [List.getD_eq_getElem?_getD, List.getElem?_eq_getElem (by omega)]
    rfl
  · subst h; trivial

theorem sSlice_ok {t : TypeId} {x : V} {lo hi mx : Option V} : (sSlice P hp t x lo hi mx).OK (evSlice P hp t x lo hi mx) := by
  generalize h : sSlice P hp t x lo hi mx = so
  unfold sSlice at h
  split at h
  · split at h
    · rename_i hu hh
      split at h
      · rename_i hk
        subst h; intro ha
        obtain ⟨h1, h2⟩ := All.append ha
        simp only [evSlice, hu, sBound_ok hh h1, sBound_ok hk h2]
      · subst h; trivial
    · subst h; trivial
  · split at h
    · rename_i hu hh
      split at h
      · rename_i hk hs
        subst h; intro ha
        obtain ⟨h1, h2⟩ := All.append ha
        simp only [evSlice, hu, sBound_ok hh h1, sBound_ok hk h2, hs]
      · subst h; trivial
    · subst h; trivial
  · split at h
    · rename_i hu hh hb
      split at h
      · rename_i hk hs he
        split at h
        · subst h; intro ha
          obtain ⟨h1, h2⟩ := All.append ha
          simp only [evSlice, hu, sBound_ok hh h1, sBound_ok hk h2, hs, hb, he]
        · subst h; refine ⟨fun hc ha => ?_, fun hc ha => ?_⟩
          · obtain ⟨h1, h2⟩ := All.append ha
            simp only [evSlice, hu, sBound_ok hh h1, sBound_ok hk h2, hs, hb, he]
            rw [if_pos (by simpa using hc)]
          · obtain ⟨h1, h2⟩ := All.append ha
            simp only [evSlice, hu, sBound_ok hh h1, sBound_ok hk h2, hs, hb, he]
            rw [if_neg (by simpa using hc)]
      · subst h; trivial
    · subst h; trivial
  · split at h
    · rename_i hu hm
      split at h
      · rename_i hh
        split at h
        · rename_i hk hs
          subst h; intro ha
          obtain ⟨h12, h3⟩ := All.append ha
          obtain ⟨h1, h2⟩ := All.append h12
          simp only [evSlice, hu, sBound_ok hm h1, sBound_ok hh h2, sBound_ok hk h3, hs]
        · subst h; trivial
      · subst h; trivial
    · subst h; trivial
  · subst h; exact ofOpt_ok _

theorem flat_sealed (c : List V) : flat [.sld c] = c := by simp [flat]

theorem sSrc_ok {size : Nat} {x : V} {ps : List Prop} {bs : List Nat} {m : Nat} {news : List V} (h : sSrc hp size x = some (ps, bs, m, news)) (ha : All ps) : srcV hp size x = some (bs, m, news) := by
  unfold sSrc at h
  split at h
  · cases h
    obtain ⟨h1, h2, _⟩ := ha
    have e : ∀ cs : List V, cs.length = m * size → cs.take (m * size) = cs := fun cs h => List.take_of_length_le (by omega)
    simp only [srcV]
    rw [e _ h1, if_pos ⟨h1, h2⟩]
  · rename_i b off m' full
    split at h
    · rename_i blk hb
      split at h
      · cases h
        obtain ⟨h1, h2, h3, _⟩ := ha
        subst h1
        unfold srcV
        have e : ((flat blk.1).drop 0).take (m * size) = flat blk.1 := by rw [List.drop_zero, List.take_of_length_le (by omega)]
        simp only [hb]
        rw [e, if_pos ⟨h2, h3⟩]
        unfold cutV
        rw [if_pos ⟨rfl, h2⟩]
      · split at h
        · rename_i hs; cases h; exact hs
        · cases h
    · cases h
  · cases h

theorem sAppend_ok {t t' : TypeId} {s x : V} : (sAppend P hp t t' s x).OK (evAppend P hp t t' s x) := by
  generalize h : sAppend P hp t t' s x = so
  unfold sAppend at h
  split at h
  · rename_i elem hu
    split at h
    · rename_i i hi
      split at h
      · rename_i z hz ht
        split at h
        · rename_i ps bs m news hc hs
          have hc' := of_decide_eq_true hc
          split at h
          · rename_i b off n full
            split at h
            · rename_i blk hb
              split at h
              · rename_i he
                subst h; intro ha
                obtain ⟨h1, h2⟩ := All.append ha
                obtain ⟨h3, h4, h5, h6, _⟩ := h2
                subst h3
                unfold evAppend
                simp only [hu, hi, hz, ht, sSrc_ok hs h1, hb]
                have e : ((flat blk.1).drop 0).take (n * i.size) = flat blk.1 := by rw [List.drop_zero, List.take_of_length_le (by omega)]
                rw [if_pos hc', e, if_pos ⟨h4, h5, h6, eq_of_beq he, trivial⟩]
                unfold cutV
                rw [if_pos ⟨rfl, h4⟩]
              · subst h; trivial
            · subst h; trivial
          · rename_i n full cs
            subst h; refine ⟨fun hm ha => ?_, fun hm ha => ?_⟩
            · have hm' : m = 0 := by simpa using hm
              subst hm'
              unfold evAppend
              simp only [hu, hi, hz, ht, sSrc_ok hs ha]
              rw [if_pos hc']
            · obtain ⟨h1, h2⟩ := All.append ha
              obtain ⟨h3, h4, h5, h6, _⟩ := h2
              have hm' : m ≠ 0 := by simpa using hm
              obtain ⟨m', rfl⟩ := Nat.exists_eq_succ_of_ne_zero hm'
              unfold evAppend
              simp only [hu, hi, hz, ht, sSrc_ok hs h1]
              have e : cs.take (n * i.size) = cs := List.take_of_length_le (by omega)
              rw [if_pos hc', e, if_pos ⟨h3, h4, h5, h6⟩]
          · subst h; trivial
        · subst h; trivial
      · subst h; trivial
    · subst h; trivial
  · subst h; trivial

theorem sEqs_ok {xs ys : List V} : ∀ {fs : List Field} {r : Bool}, sEqs P xs ys fs = some r → flatEqs P xs ys fs = some r
  | [], _, h => h
  | f :: fs, r, h => by
    unfold sEqs at h
    split at h
    · rename_i x y hn hx hy
      split at h
      · rename_i a b ha hb
        cases h
        unfold flatEqs
        have hn' : f.name ≠ "_" := by simpa using hn
        rw [if_neg hn', hx, hy]
        simp only [ha]
        cases a with
        | true => simpa using sEqs_ok hb
        | false => rfl
      · cases h
    · cases h

theorem sBin_ok {op : BinOp} {t : TypeId} {x y : V} : (sBin P hp op t x y).OK ((evBin P op t x y).map fun v => ⟨v, hp, [], []⟩) := by
  generalize h : sBin P hp op t x y = so
  unfold sBin at h
  split at h
  · split at h
    · subst h; intro ha
      simp only [evBin, evStr]
      rw [if_pos ha.1]; rfl
    · subst h; exact ofOpt_ok _
  · split at h
    · split at h
      · rename_i hk
        have hk' := of_decide_eq_true hk
        subst h; intro ha
        simp only [evBin, evInt]
        rw [if_pos hk', if_neg ha.1]; rfl
      · subst h; trivial
    · split at h
      · rename_i hk
        have hk' := of_decide_eq_true hk
        subst h; intro ha
        simp only [evBin, evInt]
        rw [if_pos hk', if_neg ha.1]; rfl
      · subst h; trivial
    · subst h; exact ofOpt_ok _
  · split at h
    · rename_i fs hu h1 h2
      split at h
      · rename_i r hr
        subst h; intro _
        simp only [evBin, hu, h1, h2, sEqs_ok hr, Option.map_some]
      · subst h; trivial
    · rename_i fs hu h1 h2
      split at h
      · rename_i r hr
        subst h; intro _
        simp only [evBin, hu, h1, h2, sEqs_ok hr, Option.map_some]
      · subst h; trivial
    · subst h; trivial
  · subst h; exact ofOpt_ok _

theorem bytesV_byts : ∀ l : List UInt8, bytesV (byts l) = some l
  | [] => rfl
  | b :: l => by
    have ih := bytesV_byts l
    simp only [byts, List.map_cons, bytesV] at ih ⊢
    rw [if_pos ⟨by omega, by have := b.toNat_lt; omega⟩, ih]
    simp

theorem bytesSeg_ok : ∀ {l : List V} {ps : List Prop} {bs : List UInt8}, bytesSeg l = some (ps, bs) → All ps → flat l = byts bs
  | [], _, _, h, _ => by cases h; rfl
  | x :: t, _, _, h, ha => by
    unfold bytesSeg at h
    split at h
    · rename_i c ps l ht
      cases h
      rw [flat_seal, bytesSeg_ok ht ha.2]
      have := ha.1
      rw [show byts (decL encByte c ++ l) = byts (decL encByte c) ++ byts l by simp [byts], ← this]
    · rename_i n ps l ht
      cases h
      rw [flat_cons rfl, bytesSeg_ok ht ha.2]
      obtain ⟨h0, h1⟩ := ha.1
      have e : ((UInt8.ofNat n.toNat).toNat : Int) = n := by
        rw [UInt8.toNat_ofNat']; omega
      simp only [byts, List.map_cons, e]
    · cases h

theorem sConv_ok {s d : TypeId} {x : V} : (sConv P hp s d x).OK (evConv P hp s d x) := by
  generalize h : sConv P hp s d x = so
  unfold sConv at h
  split at h
  · rename_i n full cs
    split at h
    · rename_i e hs hd
      split at h
      · rename_i he
        subst h; intro ha
        obtain ⟨h1, h2, _⟩ := ha
        simp only [evConv, hs, hd, he]
        generalize hl : decL encByte cs = l at h1 h2
        subst h1
        have hlen : (byts l).length = n := by simpa [byts] using h2
        have e1 : (byts l).take n = byts l := List.take_of_length_le (by omega)
        rw [e1, if_pos hlen, bytesV_byts]
      · subst h; trivial
    · subst h; trivial
  · rename_i b off n full
    split at h
    · rename_i e hs hd
      split at h
      · rename_i blk he hb
        split at h
        · rename_i ps l hl
          subst h; intro ha
          obtain ⟨h0, h1, h2, _⟩ := All.append ha
          subst h1
          have hf := bytesSeg_ok hl h0
          simp only [evConv, hs, hd, he, hb]
          have hlen : (byts l).length = n := by simpa [byts] using h2
          rw [hf, List.drop_zero]
          have e1 : (byts l).take n = byts l := List.take_of_length_le (by omega)
          rw [e1, if_pos hlen, bytesV_byts]
        · subst h; trivial
      · subst h; trivial
    · subst h; trivial
  · rename_i l
    split at h
    · rename_i e hs hd
      split at h
      · rename_i i he hi
        split at h
        · rename_i hz
          subst h; intro ha
          simp only [evConv, hs, hd, he, hi]
          rw [if_pos ⟨ha.1, of_decide_eq_true hz⟩]
          rfl
        · subst h; trivial
      · subst h; trivial
    · subst h; exact ofOpt_ok _
  · subst h; exact ofOpt_ok _

theorem sMake_ok {t : TypeId} {l c : V} : (sMake P hp t l c).OK (evMakeSlice P hp t l c) := by
  generalize h : sMake P hp t l c = so
  unfold sMake at h
  split at h
  · split at h
    · rename_i elem hu
      split at h
      · rename_i i hi
        split at h
        · rename_i z hz
          split at h
          · rename_i hc
            have hc' := of_decide_eq_true hc
            subst h; intro ha
            obtain ⟨⟨h1, h2, h3⟩, _⟩ := ha
            simp only [evMakeSlice, hu, hi, hz]
            rw [if_pos ⟨h1, h2, h3, hc'⟩]
          · subst h; trivial
        · subst h; trivial
      · subst h; trivial
    · subst h; trivial
  · subst h; trivial

theorem take_drop_sub {α : Type} {l v : List α} {base rel es : Nat} (h : (l.drop base).take es = v) (hl : v.length = es) (s : Nat) (hs : rel + s ≤ es) : (l.drop (base + rel)).take s = (v.drop rel).take s := by
  subst h
  rw [List.drop_take, List.take_take, List.drop_drop, Nat.min_eq_left (by omega)]
theorem sLoad_ok {t : TypeId} {x : V} : (sLoad P vw hp t x).OK (evLoad P hp t x) := by
  generalize h : sLoad P vw hp t x = so
  unfold sLoad at h
  split at h
  · rename_i b o
    split at h
    · rename_i blk hb
      split at h
      · rename_i hseal
        rw [Bool.and_eq_true] at hseal
        have hT := hseal.2
        have hT' : Nat.beq blk.2 mapTid = false := by simpa [rowT] using hT
        split at h
        · rename_i d s hu hs
          split at h
          · rename_i v hv
            split at h
            · rename_i hl hr hn
              subst h; intro ha
              obtain ⟨h1, _⟩ := ha
              simp only [evLoad, V.asPtr, hb, hu, hs, hl]
              rw [h1, hn, Bool.or_true, hT, if_pos ⟨by simpa using hr, rfl⟩]
            · rename_i c hl hr hn
              subst h; intro ha
              obtain ⟨h1, _⟩ := ha
              have hl' : 1 = s := by simpa using hr
              subst hl'
              simp only [evLoad, V.asPtr, hb, hu, hs, hl]
              have : (flat blk.1)[o]? = some c := by
                have h2 : (((flat blk.1).drop o).take 1)[0]? = some c := by rw [h1]; rfl
                rw [List.getElem?_take, if_pos (by omega), List.getElem?_drop] at h2
                simpa using h2
              rw [this]
              have hc : c.isO = false := by simpa [noOs] using hn
              simp only [hc, hT', Bool.or_self]
            · subst h; trivial
          · subst h; exact ofOpt_ok _
        · subst h; trivial
      · subst h; exact ofOpt_ok _
    · subst h; trivial
  · rename_i b base rel
    split at h
    · rename_i blk hb
      split at h
      · rename_i hseal
        rw [Bool.and_eq_true] at hseal
        have hT := hseal.2
        have hT' : Nat.beq blk.2 mapTid = false := by simpa [rowT] using hT
        split at h
        · rename_i d s es hu hs hes
          split at h
          · rename_i v hv
            split at h
            · rename_i hl hd
              split at h
              · rename_i hr hn
                subst h; intro ha
                obtain ⟨h1, _⟩ := ha
                have hl' : v.length = es := by simpa using hl
                have hr' : ((v.drop rel).take s).length = s := by simpa using hr
                simp only [evLoad, V.asPtr, offs_eq, hb, hu, hs, hd]
                cases s with
                | zero =>
                  simp only [List.take_zero, List.length_nil, true_and]
                  rw [if_pos (by simp [noOs, hT])]
                | succ s =>
                  have hle : rel + (s + 1) ≤ es := by
                    simp only [List.length_take, List.length_drop] at hr'; omega
                  rw [take_drop_sub h1 hl' (s + 1) hle, hn, Bool.or_true, hT, if_pos ⟨hr', rfl⟩]
              · subst h; trivial
            · rename_i c rest hl hd hu2
              split at h
              · rename_i hc
                subst h; intro ha
                obtain ⟨h1, _⟩ := ha
                have hl' : v.length = es := by simpa using hl
                simp only [evLoad, V.asPtr, offs_eq, hb, hu, hs, hd]
                have hlen := congrArg List.length hu2
                simp only [List.length_take, List.length_drop, List.length_cons] at hlen
                have h3 : (v.drop rel)[0]? = some c := by
                  have h4 : ((v.drop rel).take s)[0]? = some c := by rw [hu2]; rfl
                  rw [List.getElem?_take] at h4
                  split at h4
                  · exact h4
                  · cases h4
                have : (flat blk.1)[base + rel]? = some c := by
                  subst h1
                  rw [List.getElem?_drop, List.getElem?_take] at h3
                  split at h3
                  · rw [List.getElem?_drop] at h3; simpa using h3
                  · cases h3
                rw [this]
                simp only [hc, hT', Bool.or_self]
              · subst h; trivial
            · subst h; trivial
          · subst h; exact ofOpt_ok _
        · subst h; trivial
      · subst h; exact ofOpt_ok _
    · subst h; trivial
  · subst h; exact ofOpt_ok _

theorem sStoreAt_ok {t : TypeId} {x : V} {b o : Nat} {y : V} (hx : x.asPtr = .ptr b o) : (sStoreAt P hp t x b o y).OK (evStore P hp t x y) := by
  generalize h : sStoreAt P hp t x b o y = so
  unfold sStoreAt at h
  split at h
  · rename_i blk hb
    split at h
    · rename_i hseal
      split at h
      · rename_i s hs
        split at h
        · rename_i h1 h2 h3 h4
          subst h; intro ha
          obtain ⟨h5, _⟩ := ha
          simp only [evStore, hx, hb, hs]
          rw [Bool.and_eq_true] at hseal
          rw [if_pos ⟨h1, of_decide_eq_true h2, h3, h5, hseal.2⟩]
          simp only [spliceV, hseal.1, h4]
        · subst h; trivial
      · subst h; trivial
    · subst h; exact ofOpt_ok _
  · subst h; trivial
theorem sStore_ok {t : TypeId} {x y : V} : (sStore P hp t x y).OK (evStore P hp t x y) := by
  unfold sStore
  split
  · exact sStoreAt_ok rfl
  · rw [offs_eq]; exact sStoreAt_ok (by simp only [V.asPtr, offs_eq])
  · exact ofOpt_ok _

theorem opS_ok {e : Operand → V} (op : Op) : (evOpS P vw e hp op).OK (evPlain P e hp op) := by
  unfold evOpS
  split
  · exact sIndexAddr_ok
  · exact sIndex_ok
  · exact sSlice_ok
  · exact sBin_ok
  · exact sConv_ok
  · exact sMake_ok
  · exact sLoad_ok
  · exact sStore_ok
  · rename_i c a b
    cases hc : e c with
    | bool t => exact ⟨fun h _ => by simp only [evPlain, hc, h]; rfl, fun h _ => by simp only [evPlain, hc, h]; rfl⟩
    | _ => trivial
  · rename_i c
    generalize h : (match c.callee, c.args.toList, c.argTypes.toList with
      | .builtin .append, [s, x], [t, t'] => sAppend P hp t t' (e s) (e x)
      | _, _, _ => ofOpt (evPlain P e hp (.call c))) = so
    split at h
    · rename_i s x t t' h1 h2 h3
      subst h
      simp only [evPlain, h1, h2, h3]
      exact sAppend_ok
    · subst h; exact ofOpt_ok _
  · exact ofOpt_ok _

theorem sMore_ok {e : Operand → V} (op : Op) : (sMore P e hp op).OK (evMore P e hp op) := by
  unfold sMore
  split
  · rename_i t x i
    generalize h : sArr P hp t (e x) (e i) = so
    unfold sArr at h
    split at h
    · rename_i n el b off kk k hu hx hi
      split at h
      · rename_i s hs
        subst h; intro ha
        simp only [evMore, hx, hi, hu, hs]
        rw [if_pos ha.1]
      · subst h; trivial
    · subst h; trivial
  · rename_i c
    generalize h : (match c.callee, c.args.toList, c.argTypes.toList with
      | .builtin .copy, [s, x], [t, _] => sCopy P hp t (e s) (e x)
      | _, _, _ => ofOpt (evMore P e hp (.call c))) = so
    split at h
    · rename_i s x t t' h1 h2 h3
      simp only [evMore, h1, h2, h3]
      unfold sCopy at h
      split at h
      · rename_i elem hu
        split at h
        · rename_i i b off n full hi hs
          split at h
          · rename_i blk bs m news hb hsrc
            split at h
            · rename_i l hd hsp
              subst h; intro ha
              obtain ⟨h4, h5⟩ := of_decide_eq_true hd
              simp only [evCopy, hu, hi, hs, hb, hsrc]
              rw [if_pos ⟨h4, h5, ha.1, ha.2.1⟩]
              simp only [hsp]
            · subst h; trivial
          · subst h; trivial
        · subst h; trivial
      · subst h; trivial
    · subst h; exact ofOpt_ok _
  · exact ofOpt_ok _

end
end Go.Proofs.YtfncaghjfgnnhaaGreatDoor

namespace Go.Proofs.YtfncaghjfgnnhaaGreatDoor
open Go.RowKit

def accV (P : Program) (vw : Vw) (hp : Hp) (x : V) : Option (List Prop × Hp × Nat × Nat × Bool) :=
  match x with
  | .ptr b off => match hp[b]? with
    | some (some blk) => match hasSeal blk.1 with
      | false => some ([], hp, b, off, false)
      | true => none
    | _ => none
  | .eptr b base rel => match hp[b]? with
    | some (some blk) => match blk.1 with
      | [] => none
      | p :: t => match p.seals with
        | none => match hasSeal (p :: t) with
          | false => offs base rel fun o => some ([], hp, b, o, false)
          | true => none
        | some (o, A) => match t with
          | [] => match szOf P blk.2 with
            | some es => match vw blk.2 A (base / es) with
              | some v => match v.length == es && Nat.ble rel es && rowT blk.2, hasSeal v with
                | true, false => some ([(A.drop base).take es = v, base + es ≤ A.length], hp.set b (some ([mkS o (A.take base)] ++ v ++ [mkS o (A.drop (base + es))], blk.2)), b, 1 + rel, true)
                | _, _ => none
              | none => none
            | none => none
          | _ :: _ => match (t.take rel).length == rel, hasSeal (t.take rel) with
            | true, false => some ([A.length = base], hp, b, 1 + rel, false)
            | _, _ => none
    | _ => none
  | _ => none

def openN (b : Nat) : Nat → Nat → Hp → Hp
  | 0, _, hp => hp
  | k + 1, j, hp => match hp[b]? with
    | some (some blk) => match blk.1[j]? with
      | some (.osl E n o cs) => openN b k (j + 1) (hp.set b (some (blk.1.take j ++ .sl hp.length 0 n false :: blk.1.drop (j + 1), blk.2)) ++ [some ([mkS o cs], E)])
      | _ => openN b k (j + 1) hp
    | _ => hp

def dLoad (P : Program) (vw : Vw) (hp : Hp) (t : TypeId) (x : V) : SO :=
  match accV P vw hp x, szOf P t, P.underlying t with
  | some (ps, hp1, b, idx, sh), some s, some d =>
    match hp1[b]? with
    | some (some blk) =>
      let l := (blk.1.drop idx).take s
      match l.length == s && (blk.1.take idx).length == idx && rowT blk.2, hasSeal l, noOs l with
      | true, false, true => match sh, hasSeal blk.1, rowD d, l with
        | false, true, true, l => .one ps ⟨.agg l, hp, [b], []⟩
        | false, true, false, [c] => .one ps ⟨c, hp, [b], []⟩
        | _, _, _, _ => .no
      | true, false, false => match (openN b s idx hp1)[b]? with
        | some (some blk2) =>
          let l2 := (blk2.1.drop idx).take s
          match l2.length == s && (blk2.1.take idx).length == idx && rowT blk2.2, hasSeal l2, noOs l2 with
          | true, false, true => match rowD d, l2 with
            | true, l2 => .one ps ⟨.agg l2, openN b s idx hp1, [b], [b]⟩
            | false, [c] => .one ps ⟨c, openN b s idx hp1, [b], [b]⟩
            | _, _ => .no
          | _, _, _ => .no
        | _ => .no
      | _, _, _ => .no
    | _ => .no
  | _, _, _ => .no

def dStore (P : Program) (vw : Vw) (hp : Hp) (t : TypeId) (x y : V) : SO :=
  match accV P vw hp x, szOf P t with
  | some (ps, hp1, b, idx, _), some s =>
    match hp1[b]? with
    | some (some blk) => match hasSeal blk.1 with
      | true =>
        let l := (blk.1.drop idx).take s
        match l.length == s && (blk.1.take idx).length == idx && y.flat && (cellsV y).length == s && (cellsV y).all V.one && rowT blk.2, hasSeal l with
        | true, false => .one ps ⟨.junk, hp1.set b (some (blk.1.take idx ++ cellsV y ++ blk.1.drop (idx + s), blk.2)), [b], [b]⟩
        | _, _ => .no
      | false => .no
    | _ => .no
  | _, _ => .no

def dOp (P : Program) (vw : Vw) (e : Operand → V) (hp : Hp) : Op → SO
  | .load t x => dLoad P vw hp t (e x)
  | .store t x y => dStore P vw hp t (e x) (e y)
  | _ => .no

section
variable {P : Program} {vw : Vw} {hp hp1 : Hp} {bs : List Nat}

theorem plainOK (hn : Named P) {e : Operand → V} {op : Op} {out : Out} (h : evPlain P e hp op = some out) : OpOK P e hp op out :=
  evOp_ok (callF := fun _ _ _ => none) hn (fun _ _ _ _ h => by cases h) (fun _ _ _ _ h => by cases h) (by
    unfold evOp
    split
    · simp [evPlain] at h
    · simp [evPlain] at h
    · rw [h])

theorem Tidy.sub {acc wr acc' wr' : List Nat} (t : Tidy hp hp1 acc wr) (ha : ∀ b, b ∈ acc ↔ b ∈ acc') (hw : ∀ b, b ∈ wr ↔ b ∈ wr') : Tidy hp hp1 acc' wr' :=
  ⟨t.len, fun b h1 h2 => t.frame b h1 fun h => h2 ((hw b).1 h), fun b h => (ha b).1 (t.wracc b ((hw b).2 h)), fun b h => t.accb b ((ha b).2 h), fun b h => t.walive b ((hw b).2 h)⟩
theorem Good.sub {I I' : Nat → Prop} {μ μ' : Mu} {w w' : World} {acc wr acc' wr' : List Nat} (G : Good P I I' μ μ' w w' hp hp1 acc wr) (ha : ∀ b, b ∈ acc ↔ b ∈ acc') (hw : ∀ b, b ∈ wr ↔ b ∈ wr') : Good P I I' μ μ' w w' hp hp1 acc' wr' :=
  ⟨G.isub, fun k hk => by
      rcases G.igrow k hk with h | h | ⟨c, h1, h2⟩
      · exact .inl h
      · exact .inr (.inl h)
      · exact .inr (.inr ⟨c, (hw c).1 h1, h2⟩),
    G.evo.mono fun k ⟨b, h1, h2⟩ => ⟨b, (hw b).1 h1, h2⟩, G.le, G.dom, fun b h1 h2 => G.ftd b (fun h => h1 ((hw b).1 h)) h2, fun b hb => G.holds b (hb.imp (ha b).2 id), fun b hb blk hblk g hg => by
      rcases G.prov b (hb.imp id (hw b).2) blk hblk g hg with h | ⟨c, h1, h2⟩
      · exact .inl h
      · exact .inr ⟨c, (hw c).1 h1, h2⟩,
    fun b c b1 b2 g hne hb hc => G.inj b c b1 b2 g hne (hb.imp (ha b).2 id) (hc.imp (ha c).2 id)⟩
theorem OpOK.sub {e : Operand → V} {op : Op} {out : Out} {acc wr : List Nat} (h : OpOK P e hp op out) (ha : ∀ b, b ∈ out.acc ↔ b ∈ acc) (hw : ∀ b, b ∈ out.wr ↔ b ∈ wr) : OpOK P e hp op ⟨out.v, out.hp, acc, wr⟩ := by
  refine ⟨h.tidy.sub ha hw, fun ho hops pre hK => h.wp ho hops ⟨pre.ilt, fun b hb => pre.holds b ((ha b).1 hb), fun b hb c hc => pre.inj b ((ha b).1 hb) c ((ha c).1 hc), pre.fresh⟩ fun val w' μ' I' hR G => hK val w' μ' I' hR (G.sub ha hw)⟩
theorem PrepOK.sub {bs' : List Nat} (h : PrepOK P hp hp1 bs) (hb : ∀ b, b ∈ bs ↔ b ∈ bs') : PrepOK P hp hp1 bs' :=
  ⟨h.tidy.sub hb hb, fun pre hs => by
    obtain ⟨μ1, G⟩ := h.run pre fun b hb' => hs b ((hb b).1 hb')
    exact ⟨μ1, G.sub (fun _ => Iff.rfl) hb⟩⟩
theorem PrepOK.none {b : Nat} {blk : Blk} (hb : hp[b]? = some (some blk)) : PrepOK P hp hp [b] := by
  have := prepBlk (P := P) (l := blk.1) (l' := blk.1) (T := blk.2) hb (.inr fun _ e => e) rfl fun h => ⟨_, .refl _, h⟩
  have e : hp.set b (some (blk.1, blk.2)) = hp := by
    apply List.ext_getElem?
    intro j
    rw [List.getElem?_set]
    split
    · rename_i e
      subst e
      rw [hb, if_pos (List.getElem?_eq_some_iff.1 hb).1]
    · rfl
  rwa [e] at this

theorem openN_ok (b : Nat) : ∀ (k j : Nat) {hp : Hp} {blk : Blk}, hp[b]? = some (some blk) → PrepOK P hp (openN b k j hp) [b] ∧ ∃ l, (openN b k j hp)[b]? = some (some (l, blk.2)) ∧ l.take j = blk.1.take j ∧ (flat (l.take j)).length = (flat (blk.1.take j)).length
  | 0, j, hp, blk, hb => ⟨.none hb, blk.1, hb, rfl, rfl⟩
  | k + 1, j, hp, blk, hb => by
    have hbl := (List.getElem?_eq_some_iff.1 hb).1
    unfold openN
    simp only [hb]
    split
    · rename_i E n o cs hj
      have hjl := (List.getElem?_eq_some_iff.1 hj).1
      have hsplit : blk.1 = blk.1.take j ++ .osl E n o cs :: blk.1.drop (j + 1) := by
        conv => lhs; rw [← List.take_append_drop j blk.1]
        rw [List.drop_eq_getElem_cons hjl]
        have hj' : blk.1[j] = .osl E n o cs := by rw [List.getElem?_eq_getElem hjl] at hj; exact Option.some.inj hj
        rw [hj']
      have h1 := prepOpen (P := P) (hp := hp) (b := b) (pr := blk.1.take j) (po := blk.1.drop (j + 1)) (E := E) (n := n) (o := o) (cs := cs) (T := blk.2) (by rw [hb, ← hsplit])
      have hb2 : (hp.set b (some (blk.1.take j ++ .sl hp.length 0 n false :: blk.1.drop (j + 1), blk.2)) ++ [some ([mkS o cs], E)])[b]? = some (some (blk.1.take j ++ .sl hp.length 0 n false :: blk.1.drop (j + 1), blk.2)) := by
        rw [List.getElem?_append_left (by simpa using hbl), List.getElem?_set, if_pos rfl, if_pos hbl]
      obtain ⟨h2, l, h3, h4, _⟩ := openN_ok b k (j + 1) hb2
      have e : l.take j = blk.1.take j := by
        have := congrArg (List.take j) h4
        rw [List.take_take, List.take_take, Nat.min_eq_left (by omega)] at this
        rw [this, List.take_left' (by rw [List.length_take]; omega)]
      refine ⟨(h1.trans h2).sub fun c => ?_, l, h3, e, by rw [e]⟩
      rw [mem_lows]
      simp only [List.mem_append, List.mem_singleton, or_self]
      constructor
      · exact fun h => h.1
      · rintro rfl; exact ⟨rfl, hbl⟩
    · obtain ⟨h2, l, h3, h4, _⟩ := openN_ok b k (j + 1) hb
      have e : l.take j = blk.1.take j := by
        have := congrArg (List.take j) h4
        rwa [List.take_take, List.take_take, Nat.min_eq_left (by omega)] at this
      exact ⟨h2, l, h3, e, by rw [e]⟩

theorem noSeal_take : ∀ (l : List V) (n : Nat), hasSeal l = false → hasSeal (l.take n) = false
  | [], n, h => by simpa using h
  | x :: t, 0, h => rfl
  | x :: t, n + 1, h => by
    rcases seal_or x with ⟨o, c, rfl⟩ | hx
    · rw [hasSeal_mkS] at h; cases h
    · rw [hasSeal_cons hx] at h
      rw [List.take_succ_cons, hasSeal_cons hx]; exact noSeal_take t n h
theorem accV_ok {x : V} {ps : List Prop} {b idx : Nat} {sh : Bool} (h : accV P vw hp x = some (ps, hp1, b, idx, sh)) (ha : All ps) : PrepOK P hp hp1 [b] ∧ (sh = false → hp1 = hp) ∧ ∃ off, x.asPtr = .ptr b off ∧ ∀ blk, hp1[b]? = some (some blk) → (blk.1.take idx).length = idx → (flat (blk.1.take idx)).length = off := by
  unfold accV at h
  split at h
  · rename_i b' off
    split at h
    · rename_i blk hb
      split at h
      · rename_i hs
        cases h
        refine ⟨.none hb, fun _ => rfl, _, rfl, fun blk' hb' hl => ?_⟩
        rw [hb] at hb'; cases hb'
        rw [flat_noSeal (noSeal_take _ _ hs), hl]
      · cases h
    · cases h
  · rename_i b' base rel
    split at h
    · rename_i blk hb
      split at h
      · cases h
      · rename_i p t hpt
        split at h
        · split at h
          · rename_i hs
            rw [offs_eq] at h
            cases h
            refine ⟨.none hb, fun _ => rfl, base + rel, by simp only [V.asPtr, offs_eq], fun blk' hb' hl => ?_⟩
            rw [hb] at hb'; cases hb'
            rw [flat_noSeal (noSeal_take _ _ (by rw [hpt]; exact hs)), hl]
          · cases h
        · rename_i o A hp'
          have hp2 : p = mkS o A := by
            rcases seal_or p with ⟨o', c', rfl⟩ | hx
            · rw [seals_mkS] at hp'; cases hp'; rfl
            · rw [hx] at hp'; cases hp'
          subst hp2
          split at h
          · split at h
            · rename_i es hes
              split at h
              · rename_i v hv
                split at h
                · rename_i hl hs
                  cases h
                  obtain ⟨h1, h2, _⟩ := ha
                  have hbl := (List.getElem?_eq_some_iff.1 hb).1
                  refine ⟨prepShow (b := b) (o := o) (c := A) (T := blk.2) (by rw [hb, ← hpt]) h1 hs h2 (by rw [Bool.and_eq_true] at hl; exact hl.2), fun h => (by cases h), base + rel, by simp only [V.asPtr, offs_eq], fun blk' hb' hl' => ?_⟩
                  rw [List.getElem?_set, if_pos rfl, if_pos hbl] at hb'
                  cases hb'
                  rw [Bool.and_eq_true, Bool.and_eq_true] at hl
                  replace hl := hl.1
                  have hvl : v.length = es := by simpa using hl.1
                  have hrl : rel ≤ es := Nat.le_of_ble_eq_true hl.2
                  simp only [List.singleton_append, List.cons_append, List.nil_append] at hl' ⊢
                  rw [Nat.add_comm 1 rel] at hl' ⊢
                  rw [List.take_succ_cons, flat_sealO, List.take_append_of_le_length (by omega), flat_noSeal (noSeal_take _ _ hs), List.length_append, List.length_take, List.length_take]
                  omega
                · cases h
              · cases h
            · cases h
          · split at h
            · rename_i hl hs
              cases h
              obtain ⟨h1, _⟩ := ha
              refine ⟨.none hb, fun _ => rfl, base + rel, by simp only [V.asPtr, offs_eq], fun blk' hb' _ => ?_⟩
              rw [hb] at hb'; cases hb'
              rw [hpt, Nat.add_comm 1 rel, List.take_succ_cons, flat_sealO, List.length_append, flat_noSeal hs, eq_of_beq hl, h1]
            · cases h
    · cases h
  · cases h

theorem cells_at {l : List V} {idx s off : Nat} (hoff : (flat (l.take idx)).length = off) (hs : hasSeal ((l.drop idx).take s) = false) (hl : ((l.drop idx).take s).length = s) : ((flat l).drop off).take s = (l.drop idx).take s ∧ off + s ≤ (flat l).length := by
  have e : flat l = flat (l.take idx) ++ (((l.drop idx).take s) ++ flat ((l.drop idx).drop s)) := by
    conv => lhs; rw [← List.take_append_drop idx l, ← List.take_append_drop s (l.drop idx)]
    rw [flat_append, flat_append, flat_noSeal hs]
  constructor
  · rw [e, List.drop_left' hoff, List.take_left' hl]
  · rw [e, List.length_append, List.length_append, hl, hoff]; omega
theorem loadPiece (hn : Named P) {e : Operand → V} {t : TypeId} {x : Operand} {b idx off s : Nat} {d : TypeDesc} {blk : Blk} {v : V} (hx : (e x).asPtr = .ptr b off) (hb : hp[b]? = some (some blk)) (hsz : szOf P t = some s) (hu : P.underlying t = some d)
    (hoff : (flat (blk.1.take idx)).length = off) (hs : hasSeal ((blk.1.drop idx).take s) = false) (hl : ((blk.1.drop idx).take s).length = s) (ho : noOs ((blk.1.drop idx).take s) = true) (hT : rowT blk.2 = true)
    (hv : (rowD d = true ∧ v = .agg ((blk.1.drop idx).take s)) ∨ (rowD d = false ∧ (blk.1.drop idx).take s = [v])) : OpOK P e hp (.load t x) ⟨v, hp, [b], []⟩ := by
  obtain ⟨h1, h2⟩ := cells_at hoff hs hl
  refine plainOK hn ?_
  simp only [evPlain, evLoad, hx, hb, hu, hsz]
  rcases hv with ⟨hd, rfl⟩ | ⟨hd, hv⟩
  · simp only [hd]
    rw [h1, ho, Bool.or_true, hT, if_pos ⟨hl, rfl⟩]
  · simp only [hd]
    rw [hv] at h1 hl ho
    have hs1 : s = 1 := by simpa using hl.symm
    subst hs1
    have : (flat blk.1)[off]? = some v := by
      have h3 : (((flat blk.1).drop off).take 1)[0]? = some v := by rw [h1]; rfl
      rw [List.getElem?_take, if_pos (by omega), List.getElem?_drop] at h3
      simpa using h3
    rw [this]
    have hc : v.isO = false := by simpa [noOs] using ho
    have hT' : Nat.beq blk.2 mapTid = false := by simpa [rowT] using hT
    simp only [hc, hT', Bool.or_self]

theorem dLoad_ok (hn : Named P) {e : Operand → V} {t : TypeId} {x : Operand} {ps : List Prop} {out : Out} (h : dLoad P vw hp t (e x) = .one ps out) (ha : All ps) : OpOK P e hp (.load t x) out := by
  unfold dLoad at h
  split at h
  case h_2 => cases h
  rename_i ps' hp1 b idx sh s d hacc hsz hu
  split at h
  case h_2 => cases h
  rename_i blk hb
  simp only at h
  split at h
  · rename_i hl hs ho
    rw [Bool.and_eq_true, Bool.and_eq_true] at hl
    have hlT := hl.2
    replace hl := hl.1
    have hl1 : ((blk.1.drop idx).take s).length = s := eq_of_beq hl.1
    have hl2 : (blk.1.take idx).length = idx := eq_of_beq hl.2
    split at h
    · rename_i l _ hd
      cases h
      obtain ⟨_, h2, off, h3, h4⟩ := accV_ok hacc ha
      obtain rfl := h2 rfl
      exact loadPiece hn h3 hb hsz hu (h4 blk hb hl2) hs hl1 ho hlT (.inl ⟨hd, rfl⟩)
    · rename_i c _ hd hc
      cases h
      obtain ⟨_, h2, off, h3, h4⟩ := accV_ok hacc ha
      obtain rfl := h2 rfl
      exact loadPiece hn h3 hb hsz hu (h4 blk hb hl2) hs hl1 ho hlT (.inr ⟨hd, hc⟩)
    · cases h
  · rename_i hl hs ho
    rw [Bool.and_eq_true, Bool.and_eq_true] at hl
    replace hl := hl.1
    have hl2 : (blk.1.take idx).length = idx := eq_of_beq hl.2
    split at h
    case h_2 => cases h
    rename_i blk2 hb2
    split at h
    case h_2 => cases h
    rename_i hm hs2 ho2
    rw [Bool.and_eq_true, Bool.and_eq_true] at hm
    have hmT := hm.2
    replace hm := hm.1
    have hm1 : ((blk2.1.drop idx).take s).length = s := eq_of_beq hm.1
    have go : ∀ v, All ps' → ((rowD d = true ∧ v = .agg ((blk2.1.drop idx).take s)) ∨ (rowD d = false ∧ (blk2.1.drop idx).take s = [v])) → OpOK P e hp (.load t x) ⟨v, openN b s idx hp1, [b], [b]⟩ := by
      intro v ha hv
      obtain ⟨k1, _, off, k3, k4⟩ := accV_ok hacc ha
      obtain ⟨q1, l, q2, q3, q4⟩ := openN_ok (P := P) b s idx hb
      rw [hb2] at q2
      have hbl : b < hp.length := k1.tidy.accb b (by simp)
      have hq := loadPiece hn k3 hb2 hsz hu (by
        have : blk2.1 = l := by cases q2; rfl
        rw [this, q4]; exact k4 blk hb hl2) hs2 hm1 ho2 hmT hv
      refine (OpOK.prep (k1.trans q1) hq).sub (fun c => ?_) fun c => ?_
      · simp only [mem_lows, List.mem_append, List.mem_singleton, or_self]
        constructor
        · rintro ⟨h1 | h1, h2⟩
          · exact h1.1
          · exact h1
        · rintro rfl; exact ⟨.inr rfl, hbl⟩
      · simp only [mem_lows, List.mem_append, List.mem_singleton, or_self, List.not_mem_nil, or_false]
        constructor
        · rintro ⟨h1, h2⟩; exact h1.1
        · rintro rfl; exact ⟨⟨rfl, hbl⟩, hbl⟩
    split at h
    · rename_i hd
      cases h
      exact go _ ha (.inl ⟨hd, rfl⟩)
    · rename_i c hd hc
      cases h
      exact go _ ha (.inr ⟨hd, hc⟩)
    · cases h
  · cases h

theorem CR.put {I : Nat → Prop} {μ : Mu} {w : World} {F : List Nat} {l new : List V} {idx s off : Nat} {vs nv : List Value} (h : CR P I μ w F l vs) (hn : V.RL P I μ w new nv) (hoff : (flat (l.take idx)).length = off) (hs : hasSeal ((l.drop idx).take s) = false) (hl : ((l.drop idx).take s).length = s) (hns : new.length = s) :
    (flat (l.take idx ++ new ++ l.drop (idx + s))).length = (flat l).length ∧ ∃ F', F'.Sublist F ∧ CR P I μ w F' (l.take idx ++ new ++ l.drop (idx + s)) (vs.take off ++ nv ++ vs.drop (off + s)) := by
  have e : l = l.take idx ++ ((l.drop idx).take s ++ l.drop (idx + s)) := by
    rw [← List.drop_drop, List.take_append_drop, List.take_append_drop]
  have ef : (flat l).length = (flat (l.take idx)).length + (s + (flat (l.drop (idx + s))).length) := by
    conv => lhs; rw [e]
    rw [flat_append, flat_append, flat_noSeal hs, List.length_append, List.length_append, hl]
  rw [e] at h
  obtain ⟨F1, F2, us, us', rfl, rfl, h1, h2⟩ := CR.append_iff.1 h
  obtain ⟨F3, F4, u2, u3, rfl, rfl, h3, h4⟩ := CR.append_iff.1 h2
  have l1 := h1.length
  have l3 := h3.length
  rw [hoff] at l1
  rw [flat_noSeal hs, hl] at l3
  constructor
  · rw [ef, flat_append, flat_append, List.length_append, List.length_append, flat_of_RL hn, hns]; omega
  · refine ⟨F1 ++ F4, (List.Sublist.refl F1).append (List.sublist_append_right F3 F4), ?_⟩
    have ed : (us ++ (u2 ++ u3)).drop (off + s) = u3 := by rw [← List.drop_drop, List.drop_left' l1, List.drop_left' l3]
    rw [List.take_left' l1, ed]
    have := (h1.append (CR.of hn)).append h4
    rwa [List.append_nil] at this
theorem storePiece {e : Operand → V} {t : TypeId} {x y : Operand} {b idx off s : Nat} {blk : Blk} (hx : (e x).asPtr = .ptr b off) (hb : hp[b]? = some (some blk)) (hsz : szOf P t = some s) (hf : (e y).flat = true) (hy1 : (cellsV (e y)).length = s) (hy2 : (cellsV (e y)).all V.one = true)
    (hoff : (flat (blk.1.take idx)).length = off) (hs : hasSeal ((blk.1.drop idx).take s) = false) (hl : ((blk.1.drop idx).take s).length = s) (hT : rowT blk.2 = true) :
    OpOK P e hp (.store t x y) ⟨.junk, hp.set b (some (blk.1.take idx ++ cellsV (e y) ++ blk.1.drop (idx + s), blk.2)), [b], [b]⟩ := by
  have hbl := (List.getElem?_eq_some_iff.1 hb).1
  have t1 := prep_tidy hb (some (blk.1.take idx ++ cellsV (e y) ++ blk.1.drop (idx + s), blk.2)) []
  rw [List.append_nil] at t1
  refine ⟨t1, fun {I μ w oper a K Q} ho hops pre hK => ?_⟩
  have hxr := asPtr_R (hops x (by simp [Op.operands]))
  have hyr := hops y (by simp [Op.operands])
  rw [hx] at hxr
  simp only [V.R] at hxr
  obtain ⟨g, hg, hvx⟩ := hxr
  obtain ⟨cs, fr, _, hw, hfr, ⟨hsz2, hcr⟩, _⟩ := (pre.holds b (by simp) blk hb).real hT hg
  have hrow : Row w g blk.2 cs := ⟨fr, hw, hfr⟩
  have hfl := flat_cells hyr hf
  have hvl : (a.eval y).cells.toList.length = s := by rw [hfl.length, hy1]
  obtain ⟨_, hle⟩ := cells_at hoff hs hl
  have hst := storeCells_row P g off blk.2 (a.eval y).cells.toList 0 cs w hrow (by omega) (ones hfl hy2)
  simp only [Nat.add_zero] at hst
  obtain ⟨hl2, F', hF', hcr2⟩ := CR.put hcr hfl hoff hs hl hy1
  have hrun : (Instr.storeAt t (a.eval x) (a.eval y)).run P w = .ok () (w.setRow g (cs.toList.take off ++ (a.eval y).cells.toList ++ cs.toList.drop (off + (a.eval y).cells.toList.length)).toArray) := by
    rw [hvx]
    simp only [Instr.storeAt, Instr.sureAddr, Sem.run_bind, Sem.run_pure, Result.andThen_ok, storeVar, run_sizeOf hsz]
    rw [if_neg (by simpa using hvl)]
    exact hst
  have hG : Good P I I μ (μ.setFt b F') w (w.setRow g (cs.toList.take off ++ (a.eval y).cells.toList ++ cs.toList.drop (off + (a.eval y).cells.toList.length)).toArray) hp (hp.set b (some (blk.1.take idx ++ cellsV (e y) ++ blk.1.drop (idx + s), blk.2))) [b] [b] := by
    have e := take_splice cs.toList (a.eval y).cells.toList off (flat blk.1).length (by omega) (by simpa using hsz2)
    have hvs : (a.eval y).cells.size = s := by simpa using hvl
    refine Good.writeC (blk' := (_, blk.2)) (by simpa using pre) (by simp) hb hg hw rfl ?_ hfr hF' ?_
    · simp only [List.size_toArray, List.length_append, List.length_take, List.length_drop, Array.length_toList]; omega
    · refine ⟨?_, ?_⟩
      · show (flat (blk.1.take idx ++ cellsV _ ++ blk.1.drop (idx + s))).length ≤ _
        rw [hl2]; simp only [List.size_toArray, List.length_append, List.length_take, List.length_drop, Array.length_toList]; omega
      · show CR P I μ w F' (blk.1.take idx ++ cellsV _ ++ blk.1.drop (idx + s)) (List.take (flat (blk.1.take idx ++ cellsV _ ++ blk.1.drop (idx + s))).length _)
        rw [hl2, e, hvl]
        exact hcr2
  have := hK undef _ _ _ (by simp [V.R]) hG
  unfold Oper.wp
  simp only [execOp, ho, Sem.run_bind, hrun, Result.andThen_ok, Sem.run_pure]
  exact this
theorem dStore_ok {e : Operand → V} {t : TypeId} {x y : Operand} {ps : List Prop} {out : Out} (h : dStore P vw hp t (e x) (e y) = .one ps out) (ha : All ps) : OpOK P e hp (.store t x y) out := by
  unfold dStore at h
  split at h
  case h_2 => cases h
  rename_i ps' hp1 b idx sh s hacc hsz
  split at h
  case h_2 => cases h
  rename_i blk hb
  split at h
  case h_2 => cases h
  simp only at h
  split at h
  case h_2 => cases h
  rename_i hc hs
  cases h
  simp only [Bool.and_eq_true, beq_iff_eq] at hc
  obtain ⟨⟨⟨⟨⟨c1, c2⟩, c3⟩, c4⟩, c5⟩, c6⟩ := hc
  obtain ⟨k1, _, off, k3, k4⟩ := accV_ok hacc ha
  have hbl : b < hp.length := k1.tidy.accb b (by simp)
  refine (OpOK.prep k1 (storePiece k3 hb hsz c3 c4 c5 (k4 blk hb c2) hs c1 c6)).sub (fun c => ?_) fun c => ?_
  all_goals
    simp only [mem_lows, List.mem_append, List.mem_singleton, or_self]
    constructor
    · exact fun h => h.1
    · rintro rfl; exact ⟨rfl, hbl⟩
theorem dOp_ok (hn : Named P) {e : Operand → V} {op : Op} {ps : List Prop} {out : Out} (h : dOp P vw e hp op = .one ps out) (ha : All ps) : OpOK P e hp op out := by
  unfold dOp at h
  split at h
  · exact dLoad_ok hn h ha
  · exact dStore_ok h ha
  · cases h

end
end Go.Proofs.YtfncaghjfgnnhaaGreatDoor

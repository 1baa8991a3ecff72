/-
  The small evaluator's plain operations do what the machine does.
-/
import Derived.Test.YtlimecojoiimaaaGreatUb
import Derived.Deep.MidRow
import Derived.Great.FillDense
import Derived.Laws.StructEq
import Derived.Laws.Cover3
namespace Go.Proofs.YtlimecojoiimaaaGreat
open Go.RowKit

structure Pre (P : Program) (I : Nat → Prop) (μ : Mu) (w : World) (hp : Hp) (acc : List Nat) (top : Nat) : Prop where
  ilt : ∀ k, I k → k < w.heap.size
  holds : ∀ b ∈ acc, ∀ blk, hp[b]? = some (some blk) → Holds P I μ w b blk
  inj : ∀ b ∈ acc, ∀ c ∈ acc, ∀ blk blk' g, b ≠ c → hp[b]? = some (some blk) → hp[c]? = some (some blk') → μ b = some g → μ c = some g → False
  fresh : ∀ b, hp.length ≤ b → b < top → μ b = none

structure Good (P : Program) (I I' : Nat → Prop) (μ μ' : Mu) (w w' : World) (hp hp' : Hp) (acc wr : List Nat) : Prop where
  isub : Sub I I'
  igrow : ∀ k, I' k → I k ∨ (w.heap.size ≤ k ∧ k < w'.heap.size) ∨ ∃ c ∈ wr, μ c = some k ∧ (∃ blk, hp[c]? = some (some blk)) ∧ hp'[c]? = some none
  evo : Evo I w w' (fun k => ∃ b ∈ wr, μ b = some k)
  le : MuLe μ μ'
  dom : ∀ b g, μ' b = some g → μ b = some g ∨ (hp.length ≤ b ∧ b < hp'.length)
  holds : ∀ b, (b ∈ acc ∨ hp.length ≤ b) → ∀ blk, hp'[b]? = some (some blk) → Holds P I' μ' w' b blk
  prov : ∀ b, hp.length ≤ b → ∀ blk, hp'[b]? = some (some blk) → ∀ g, μ' b = some g → w.heap.size ≤ g ∨ ∃ c ∈ wr, μ c = some g ∧ (∃ blk, hp[c]? = some (some blk)) ∧ hp'[c]? = some none
  inj : ∀ b c blk blk' g, b ≠ c → (b ∈ acc ∨ hp.length ≤ b) → (c ∈ acc ∨ hp.length ≤ c) → hp'[b]? = some (some blk) → hp'[c]? = some (some blk') → μ' b = some g → μ' c = some g → False

/-- What evOp itself keeps. -/
structure Tidy (hp hp' : Hp) (acc wr : List Nat) : Prop where
  len : hp.length ≤ hp'.length
  frame : ∀ b, b < hp.length → b ∉ wr → hp'[b]? = hp[b]?
  wracc : ∀ b ∈ wr, b ∈ acc
  accb : ∀ b ∈ acc, b < hp.length
  walive : ∀ b ∈ wr, ∃ blk, hp[b]? = some (some blk)

section
variable {P : Program} {I : Nat → Prop} {μ μ' : Mu} {w w' : World} {hp : Hp} {out : Out}

theorem Good.same {acc : List Nat} (hp : Hp) (pre : Pre P I μ w hp acc hp.length) : Good P I I μ μ w w hp hp acc [] := by
  refine ⟨.refl _, fun _ h => .inl h, .refl _ _, .refl _, fun b g h => .inl h, fun b hb blk hblk => ?_, fun b hb blk hblk => ?_, fun b c blk blk' g hne hb hc h1 h2 => ?_⟩
  · rcases hb with hb | hb
    · exact pre.holds b hb blk hblk
    · rw [List.getElem?_eq_none hb] at hblk; cases hblk
  · rw [List.getElem?_eq_none hb] at hblk; cases hblk
  · rcases hb with hb | hb
    · rcases hc with hc | hc
      · exact pre.inj b hb c hc blk blk' g hne h1 h2
      · rw [List.getElem?_eq_none hc] at h2; cases h2
    · rw [List.getElem?_eq_none hb] at h1; cases h1

/-- The map of blocks with a new one. -/
def Mu.put (μ : Mu) (b g : Nat) : Mu := fun c => if c = b then some g else μ c
theorem Mu.put_at (μ : Mu) (b g : Nat) : μ.put b g b = some g := by simp [Mu.put]
theorem Mu.put_ne (μ : Mu) {b c : Nat} (g : Nat) (h : c ≠ b) : μ.put b g c = μ c := by simp [Mu.put, h]
theorem Mu.put_le {b g : Nat} (h : μ b = none) : MuLe μ (μ.put b g) := fun c g' hc => by
  rw [Mu.put_ne]; exact hc
  rintro rfl; rw [h] at hc; cases hc

/-- A new block at the end. -/
theorem Good.newC {acc : List Nat} {blk : Blk} {cs : Array Value} {fr : Nat × Nat} {wd : World} (hd : wd = w ∨ wd = w.drew) (pre : Pre P I μ w hp acc (hp.length + 1)) (hfr : fr.2 ≤ fr.1 ∨ cs.size ≤ fr.1)
    (hr : Cont P I μ w blk.1 cs) :
    Good P I I μ (μ.put hp.length w.heap.size) w (wd.alloc (.cells cs blk.2 fr)) hp (hp ++ [some blk]) acc [] ∧
      (wd.alloc (.cells cs blk.2 fr)).shape? w.heap.size = some (blk.2, cs.size) := by
  have hsz : wd.heap.size = w.heap.size := by rcases hd with rfl | rfl <;> rfl
  have hE : Evo I w (wd.alloc (.cells cs blk.2 fr)) (fun k => ∃ b ∈ ([] : List Nat), μ b = some k) := by
    rcases hd with rfl | rfl
    · exact .alloc _ _ _
    · exact (Evo.drew w _).trans (.alloc _ _ _) (.refl _) (fun _ _ h => h)
  have hle : MuLe μ (μ.put hp.length w.heap.size) := Mu.put_le (pre.fresh _ (Nat.le_refl _) (by omega))
  have hnew : (wd.alloc (.cells cs blk.2 fr)).heap[w.heap.size]? = some (.cells cs blk.2 fr) := by rw [← hsz]; exact heap_alloc_new wd _
  have hat : ∀ b blk', (hp ++ [some blk])[b]? = some (some blk') → (b < hp.length ∧ hp[b]? = some (some blk')) ∨ (b = hp.length ∧ blk' = blk) := by
    intro b blk' h
    rw [List.getElem?_append] at h
    split at h
    · rename_i hb; exact .inl ⟨hb, h⟩
    · rename_i hb
      right
      cases hk : b - hp.length with
      | zero => rw [hk] at h; simp at h; exact ⟨by omega, h.symm⟩
      | succ k => rw [hk] at h; simp at h
  refine ⟨⟨.refl _, fun _ h => .inl h, hE, hle, fun b g h => ?_, fun b hb blk' hblk => ?_, fun b hb blk' hblk g hg => ?_, fun b c blk' blk'' g hne hb hc h1 h2 g1 g2 => ?_⟩, shape_of hnew⟩
  · by_cases hbl : b = hp.length
    · right; simp; omega
    · left; rwa [Mu.put_ne _ _ hbl] at h
  · rcases hat b blk' hblk with ⟨hl, h⟩ | ⟨rfl, rfl⟩
    · rcases hb with hb | hb
      · exact (pre.holds b hb blk' h).keep hE (.refl _) hle (fun g _ hx => by obtain ⟨c, hc, _⟩ := hx; cases hc) (fun g hg => (pre.holds b hb blk' h).nimm hg)
      · omega
    · exact ⟨w.heap.size, cs, fr, Mu.put_at _ _ _, fun hi => Nat.lt_irrefl _ (pre.ilt _ hi), hnew, hfr, hr.keep hE (Sub.refl _) hle⟩
  · rcases hat b blk' hblk with ⟨hl, h⟩ | ⟨rfl, rfl⟩
    · omega
    · rw [Mu.put_at] at hg; cases hg; exact .inl (Nat.le_refl _)
  · have old : ∀ b blk', (b ∈ acc ∨ hp.length ≤ b) → b < hp.length → hp[b]? = some (some blk') → ∀ g, μ b = some g → g < w.heap.size := by
      intro b blk' hb hl h g hg
      rcases hb with hb | hb
      · exact (pre.holds b hb blk' h).lt hg
      · omega
    rcases hat b blk' h1 with ⟨hl, h⟩ | ⟨rfl, rfl⟩
    · rw [Mu.put_ne _ _ (by omega)] at g1
      rcases hat c blk'' h2 with ⟨hl', h'⟩ | ⟨rfl, rfl⟩
      · rw [Mu.put_ne _ _ (by omega)] at g2
        rcases hb with hb | hb
        · rcases hc with hc | hc
          · exact pre.inj b hb c hc _ _ g hne h h' g1 g2
          · omega
        · omega
      · rw [Mu.put_at] at g2
        have := old b blk' hb hl h g g1
        cases g2; omega
    · rw [Mu.put_at] at g1
      rcases hat c blk'' h2 with ⟨hl', h'⟩ | ⟨rfl, rfl⟩
      · rw [Mu.put_ne _ _ (by omega)] at g2
        have := old c blk'' hc hl' h' g g2
        cases g1; omega
      · exact hne rfl

theorem Good.new {acc : List Nat} {blk : Blk} {cs : Array Value} {fr : Nat × Nat} {wd : World} (hd : wd = w ∨ wd = w.drew) (pre : Pre P I μ w hp acc (hp.length + 1)) (hs : blk.1.length ≤ cs.size) (hfr : fr.2 ≤ fr.1 ∨ cs.size ≤ fr.1)
    (hr : V.RL P I μ w blk.1 (cs.toList.take blk.1.length)) :
    Good P I I μ (μ.put hp.length w.heap.size) w (wd.alloc (.cells cs blk.2 fr)) hp (hp ++ [some blk]) acc [] ∧
      (wd.alloc (.cells cs blk.2 fr)).shape? w.heap.size = some (blk.2, cs.size) := Good.newC hd pre hfr (.of hs hr)

theorem Tidy.same (hp : Hp) {acc : List Nat} (h : ∀ b ∈ acc, b < hp.length) : Tidy hp hp acc [] := ⟨Nat.le_refl _, fun _ _ _ => rfl, by simp, h, by simp⟩
theorem Tidy.new (hp : Hp) (blk : Option Blk) {acc : List Nat} (h : ∀ b ∈ acc, b < hp.length) : Tidy hp (hp ++ [blk]) acc [] :=
  ⟨by simp, fun b hb _ => by rw [List.getElem?_append_left hb], by simp, h, by simp⟩

/-- A block is written. -/
theorem Good.writeC {acc : List Nat} {b g : Nat} {blk blk' : Blk} {old cs : Array Value} {fr : Nat × Nat} (pre : Pre P I μ w hp acc hp.length) (hb : b ∈ acc) (hblk : hp[b]? = some (some blk)) (hg : μ b = some g)
    (hw : w.heap[g]? = some (.cells old blk.2 fr)) (he : blk'.2 = blk.2) (hsz : cs.size = old.size) (hfr : fr.2 ≤ fr.1 ∨ old.size ≤ fr.1) (hr : Cont P I μ w blk'.1 cs) :
    Good P I I μ μ w (w.setRow g cs) hp (hp.set b (some blk')) acc [b] := by
  have hE0 : Evo I w (w.setRow g cs) (fun k => k = g) := .setRow w g old cs _ fr hw hsz ((pre.holds b hb blk hblk).nimm hg)
  have hE : Evo I w (w.setRow g cs) (fun k => ∃ c ∈ [b], μ c = some k) := hE0.mono fun k hk => ⟨b, by simp, by rw [hk]; exact hg⟩
  have hbl : b < hp.length := (List.getElem?_eq_some_iff.1 hblk).1
  have hat : ∀ c blk'', (hp.set b (some blk'))[c]? = some (some blk'') → (c = b ∧ blk'' = blk') ∨ (c ≠ b ∧ hp[c]? = some (some blk'')) := by
    intro c blk'' h
    rw [List.getElem?_set] at h
    split at h
    · rename_i hc
      cases h; exact .inl ⟨hc.symm, rfl⟩
    · rename_i hc; exact .inr ⟨fun e => hc e.symm, h⟩
  have hlt : ∀ c blk'', (hp.set b (some blk'))[c]? = some (some blk'') → c < hp.length := by
    intro c blk'' h; have := (List.getElem?_eq_some_iff.1 h).1; simpa using this
  refine ⟨.refl _, fun _ h => .inl h, hE, .refl _, fun b g h => .inl h, fun c hc blk'' h => ?_, fun c hc blk'' h => ?_, fun c d b1 b2 k hne hc hd h1 h2 => ?_⟩
  · have hcl := hlt c blk'' h
    rcases hat c blk'' h with ⟨rfl, rfl⟩ | ⟨hcb, h⟩
    · refine ⟨g, cs, fr, hg, (pre.holds _ hb blk hblk).nimm hg, ?_, by rw [hsz]; exact hfr, hr.keep hE (Sub.refl _) (.refl _)⟩
      rw [setRow_heap w g old cs _ fr hw, he]
    · rcases hc with hc | hc
      · refine (pre.holds c hc blk'' h).keep hE0 (.refl _) (.refl _) (fun k hk hx => ?_) (fun k hk => (pre.holds c hc blk'' h).nimm hk)
        subst hx
        exact pre.inj c hc b hb _ _ k hcb h hblk hk hg
      · omega
  · have := hlt c blk'' h; omega
  · have hcl := hlt c b1 h1
    have hdl := hlt d b2 h2
    have hc' : c ∈ acc := by rcases hc with hc | hc; exact hc; omega
    have hd' : d ∈ acc := by rcases hd with hd | hd; exact hd; omega
    rcases hat c b1 h1 with ⟨ec, _⟩ | ⟨hcb, h1'⟩
    · rcases hat d b2 h2 with ⟨ed, _⟩ | ⟨hdb, h2'⟩
      · exact absurd (ec.trans ed.symm) hne
      · exact pre.inj _ hc' _ hd' _ _ k hne (ec ▸ hblk) h2'
    · rcases hat d b2 h2 with ⟨ed, _⟩ | ⟨hdb, h2'⟩
      · exact pre.inj _ hc' _ hd' _ _ k hne h1' (ed ▸ hblk)
      · exact pre.inj _ hc' _ hd' _ _ k hne h1' h2'

theorem Good.write {acc : List Nat} {b g : Nat} {blk blk' : Blk} {old cs : Array Value} {fr : Nat × Nat} (pre : Pre P I μ w hp acc hp.length) (hb : b ∈ acc) (hblk : hp[b]? = some (some blk)) (hg : μ b = some g)
    (hw : w.heap[g]? = some (.cells old blk.2 fr)) (he : blk'.2 = blk.2) (hsz : cs.size = old.size) (hs : blk'.1.length ≤ cs.size) (hfr : fr.2 ≤ fr.1 ∨ old.size ≤ fr.1) (hr : V.RL P I μ w blk'.1 (cs.toList.take blk'.1.length)) :
    Good P I I μ μ w (w.setRow g cs) hp (hp.set b (some blk')) acc [b] := Good.writeC pre hb hblk hg hw he hsz hfr (.of hs hr)

end
end Go.Proofs.YtlimecojoiimaaaGreat

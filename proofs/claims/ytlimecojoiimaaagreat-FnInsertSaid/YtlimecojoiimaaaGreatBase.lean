/-
  The ground for this claim's walks: rows of cells that are the call's own, 'append' onto them, bytes and strings, what a call may have turned.
-/
import Derived.Test.YtlimecojoiimaaaGreatRows
import Derived.WalkKit
import Derived.WalkSpells
import Derived.WalkLawsBesides
import Derived.BigQuiet
import Derived.Lib.Hide
import Derived.Deep.CutRange
import Derived.Deep.DeepCutAuto
import Derived.Deep.LoopGhost
namespace Go.Proofs.YtlimecojoiimaaaGreat
open Go.RowKit

/-- Block g is the row 'cur' of element type e; none of its cells is frozen. -/
def Row (w : World) (g : Nat) (e : TypeId) (cur : Array Value) : Prop := ∃ fr : Nat × Nat, w.heap[g]? = some (.cells cur e fr) ∧ (fr.2 ≤ fr.1 ∨ cur.size ≤ fr.1)

section
variable {w w' : World} {g : Nat} {e : TypeId} {cur : Array Value}
theorem Row.lt (h : Row w g e cur) : g < w.heap.size := by
  obtain ⟨fr, h, _⟩ := h
  exact (Array.getElem?_eq_some_iff.1 h).1
theorem Row.cell (h : Row w g e cur) (i : Nat) : w.cell? ⟨g, i, none⟩ = cur[i]? := by
  obtain ⟨fr, h, _⟩ := h
  simp [World.cell?, h]
theorem Row.free (h : Row w g e cur) (i : Nat) (hi : i < cur.size) : w.frozen? ⟨g, i, none⟩ = false := by
  obtain ⟨⟨lo, hi'⟩, h, k⟩ := h
  simp only [World.frozen?, h]
  simp only at k
  rcases k with k | k <;> simp <;> omega
theorem Row.of (h : w.heap[g]? = some (.cells cur e (0, 0))) : Row w g e cur := ⟨_, h, .inl (Nat.le_refl _)⟩
theorem Row.new (w : World) (e : TypeId) (cur : Array Value) : Row (w.alloc (.cells cur e)) w.heap.size e cur := .of (heap_alloc_new w _)
theorem Row.same (h : Row w g e cur) (hk : w'.heap[g]? = w.heap[g]?) : Row w' g e cur := by
  obtain ⟨fr, h, k⟩ := h
  exact ⟨fr, hk.trans h, k⟩
theorem Row.drew (h : Row w g e cur) : Row w.drew g e cur := h
theorem Row.alloc (h : Row w g e cur) (o : Obj) : Row (w.alloc o) g e cur := h.same (Below.heap_alloc w o g h.lt)
theorem Row.set_ (h : Row w g e cur) (i : Nat) (u : Value) : Row (w.setCell ⟨g, i, none⟩ u) g e (cur.setIfInBounds i u) := by
  obtain ⟨fr, h, k⟩ := h
  refine ⟨fr, ?_, by simpa using k⟩
  simp [World.setCell, Array.getElem?_modify, h]
theorem Row.far (h : Row w g e cur) {p : Addr} (hp : g ≠ p.block) (u : Value) : Row (w.setCell p u) g e cur := h.same (Below.heap_setCell w p u g hp)
theorem Row.grown {row : Option Nat} (h : Row w g e cur) (hb : w.grownBy w' row) (hg : some g ≠ row) : Row w' g e cur := h.same (hb.block g h.lt hg)
theorem Row.below {B : Nat} (h : Row w g e cur) (hb : Below B w w') (hg : g < B) : Row w' g e cur := h.same (hb.block g hg)
theorem Row.ne_ {g' : Nat} {e' : TypeId} {cur' : Array Value} (h : Row w g e cur) (h' : Row w g' e' cur') (hne : e ≠ e') : g ≠ g' := by
  rintro rfl
  obtain ⟨fr, h, _⟩ := h
  obtain ⟨fr', h', _⟩ := h'
  rw [h] at h'
  injection h' with h'
  injection h' with _ ht
  exact hne ht
theorem Row.setRow_at (h : Row w g e cur) (next : Array Value) (hs : next.size = cur.size) : Row (w.setRow g next) g e next := by
  obtain ⟨fr, h, k⟩ := h
  exact ⟨fr, setRow_heap w g cur next e fr h, by rw [hs]; exact k⟩
end

theorem storeCells_row (P : Program) (g o : Nat) (t : TypeId) : ∀ (vs : List Value) (i : Nat) (cur : Array Value) (w : World), Row w g t cur → o + i + vs.length ≤ cur.size → (∀ v ∈ vs, v.oneCell' = true) →
    (storeCells ⟨g, o, none⟩ vs i).run P w = .ok () (w.setRow g (cur.toList.take (o + i) ++ vs ++ cur.toList.drop (o + i + vs.length)).toArray)
  | [], i, cur, w, ⟨fr, hg, _⟩, _, _ => by
    simp only [storeCells, List.append_nil, List.length_nil, Nat.add_zero, List.take_append_drop, Array.toArray_toList]
    rw [setRow_self w g cur t fr hg]
    rfl
  | v :: rest, i, cur, w, hr, hl, h1 => by
    have hi : o + i < cur.size := by simp at hl; omega
    have hadd : (⟨g, o, none⟩ : Addr).add i = ⟨g, o + i, none⟩ := by unfold Addr.add; split <;> simp_all
    have hcell : w.cell? ⟨g, o + i, none⟩ = some cur[o + i] := by rw [hr.cell]; simp [hi]
    have hfro : w.frozen? ⟨g, o + i, none⟩ = false := hr.free _ hi
    have hst : (store ((⟨g, o, none⟩ : Addr).add i) v).run P w = .ok () (w.setRow g (cur.setIfInBounds (o + i) v)) := by
      obtain ⟨fr, hg, _⟩ := hr
      rw [hadd, run_store P w _ v _ (h1 v (by simp)), hcell]
      simp [hfro, setCell_eq_setRow w g (o + i) cur t fr v hg]
    have ih := storeCells_row P g o t rest (i + 1) (cur.setIfInBounds (o + i) v) (w.setRow g (cur.setIfInBounds (o + i) v)) (hr.setRow_at _ (by simp)) (by simp at hl ⊢; omega) (fun x hx => h1 x (by simp [hx]))
    simp only [storeCells, Sem.run_bind, hst, Result.andThen_ok, ih, setRow_setRow]
    congr 3
    have e := list_seg_step cur.toList (o + i) v rest (by simp at hl ⊢; omega)
    simpa [Array.toList_setIfInBounds, Nat.add_assoc] using e

/-- What lies from address 'a' on reads as 'xs'. -/
def Lies (w : World) (a : Option Addr) (xs : List Value) : Prop := xs = [] ∨ ∃ ad, a = some ad ∧ ad.block < w.heap.size ∧ ∀ j u, xs[j]? = some u → w.cell? (ad.add j) = some u

/-- A slice of n elements (each of 'size' cells) that is the call's own from block 'lo' on: it reads as xs, and may be appended to. -/
def Own (w : World) (lo : Nat) (e : TypeId) (size : Nat) (v : Value) (n : Nat) (xs : List Value) : Prop :=
  xs.length = n * size ∧ ((v = .slice none 0 0 ∧ n = 0) ∨
   ∃ g cap cur, v = .slice (some ⟨g, 0, none⟩) n cap ∧ lo ≤ g ∧ Row w g e cur ∧ n ≤ cap ∧ cap ≤ maxLen ∧ cur.size = cap * size ∧ cur.toList.take (n * size) = xs)

section
variable {w w' : World} {lo : Nat} {e : TypeId} {size : Nat} {v : Value} {n : Nat} {xs : List Value}
theorem Own.nil (w : World) (lo : Nat) (e : TypeId) (size : Nat) : Own w lo e size (.slice none 0 0) 0 [] := ⟨by simp, .inl ⟨rfl, rfl⟩⟩
theorem Own.made (w : World) (cur : Array Value) (n cap : Nat) (hb : lo ≤ w.heap.size) (hn : n ≤ cap) (hm : cap ≤ maxLen) (hs : cur.size = cap * size) (hx : cur.toList.take (n * size) = xs) :
    Own (w.alloc (.cells cur e)) lo e size (.slice (some ⟨w.heap.size, 0, none⟩) n cap) n xs :=
  ⟨by rw [← hx, List.length_take, Array.length_toList, hs]; exact Nat.min_eq_left (Nat.mul_le_mul_right _ hn), .inr ⟨w.heap.size, cap, cur, rfl, hb, Row.new w e cur, hn, hm, hs, hx⟩⟩
theorem Own.lt (h : Own w lo e size v n xs) : ∀ k, v.ownBlock = some k → lo ≤ k ∧ k < w.heap.size := by
  intro k hk
  rcases h.2 with ⟨rfl, _⟩ | ⟨g, cap, cur, rfl, hb, hg, _⟩
  · simp [Value.ownBlock] at hk
  · simp [Value.ownBlock] at hk
    subst hk
    exact ⟨hb, hg.lt⟩
theorem Own.same (h : Own w lo e size v n xs) (hk : ∀ g, v.ownBlock = some g → w'.heap[g]? = w.heap[g]?) : Own w' lo e size v n xs := by
  refine ⟨h.1, ?_⟩
  rcases h.2 with hn | ⟨g, cap, cur, rfl, hb, hgg, rest⟩
  · exact .inl hn
  · exact .inr ⟨g, cap, cur, rfl, hb, hgg.same (hk g rfl), rest⟩
theorem Own.grown {row : Option Nat} (h : Own w lo e size v n xs) (hg : w.grownBy w' row) (hne : v.ownBlock = none ∨ v.ownBlock ≠ row) : Own w' lo e size v n xs :=
  h.same fun g hv => hg.block g (h.lt g hv).2 (by
    rcases hne with hne | hne
    · simp [hne] at hv
    · rw [← hv]; exact hne)
theorem Own.drew (h : Own w lo e size v n xs) : Own w.drew lo e size v n xs := h
theorem Own.alloc (h : Own w lo e size v n xs) (o : Obj) : Own (w.alloc o) lo e size v n xs := h.same fun g hv => Below.heap_alloc w o g (h.lt g hv).2
theorem Own.below {B : Nat} (h : Own w lo e size v n xs) (hb : Below B w w') (hB : ∀ g, v.ownBlock = some g → g < B) : Own w' lo e size v n xs := h.same fun g hv => hb.block g (hB g hv)
theorem Own.far (h : Own w lo e size v n xs) {p : Addr} (hp : v.ownBlock ≠ some p.block) (u : Value) : Own (w.setCell p u) lo e size v n xs :=
  h.same fun g hv => Below.heap_setCell w p u g (by rintro rfl; exact hp hv)
theorem Own.ne_row {g : Nat} {t : TypeId} {cs : Array Value} (h : Own w lo e size v n xs) (hg : Row w g t cs) (hne : e ≠ t) : v.ownBlock ≠ some g := by
  rcases h.2 with ⟨rfl, _⟩ | ⟨g', cap, cur, rfl, _, hh, _⟩
  · simp [Value.ownBlock]
  · intro he
    have : g' = g := by simpa [Value.ownBlock] using he
    subst this
    exact Row.ne_ (e := e) hh hg hne rfl
theorem Own.ne_own {lo' : Nat} {e' : TypeId} {size' : Nat} {v' : Value} {n' : Nat} {xs' : List Value} (h : Own w lo e size v n xs) (h' : Own w lo' e' size' v' n' xs') (hne : e ≠ e') : v.ownBlock = none ∨ v.ownBlock ≠ v'.ownBlock := by
  rcases h'.2 with ⟨rfl, _⟩ | ⟨g', cap, cur, rfl, _, hh, _⟩
  · cases hv : v.ownBlock with
    | none => exact .inl rfl
    | some g => exact .inr (by simp [Value.ownBlock])
  · exact .inr (h.ne_row hh hne)
theorem Own.lies (h : Own w lo e size v n xs) : ∃ a cap, v = .slice a n cap ∧ Lies w a xs := by
  rcases h.2 with ⟨rfl, rfl⟩ | ⟨g, cap, cur, rfl, _, hr, _, _, _, ht⟩
  · exact ⟨none, 0, rfl, .inl (List.eq_nil_of_length_eq_zero (by simpa using h.1))⟩
  · refine ⟨_, cap, rfl, .inr ⟨_, rfl, hr.lt, fun j u hu => ?_⟩⟩
    have hadd : (⟨g, 0, none⟩ : Addr).add j = ⟨g, j, none⟩ := by unfold Addr.add; split <;> simp_all
    rw [hadd, hr.cell]
    rw [← ht, List.getElem?_take] at hu
    split at hu
    · simpa using hu
    · cases hu
end

theorem run_append {P : Program} (w : World) (lo : Nat) (t ty e : TypeId) (i : TypeInfo) (z : Value) (size bytes : Nat) (ht : P.underlying t = some (.slice e)) (hi : P.info? e = some i) (hz : i.zero = some z)
    (hsize : i.size = size) (hby : i.bytes = bytes) (hzs : z.cells.size = size) (hsz : 0 < size)
    (v : Value) (n : Nat) (xs : List Value) (hown : Own w lo e size v n xs)
    (a : Option Addr) (m c : Nat) (news : List Value) (hl : news.length = m * size) (hnews : Lies w a news) (h1 : ∀ u ∈ news, u.oneCell' = true)
    (h63 : n + m ≤ maxLen) (hbytes : (n + m) * bytes ≤ 140737488355328) (hbase : lo ≤ w.heap.size) :
    ∃ v' w', (Builtin.append_ #[t, t] ty #[v, .slice a m c]).run P w = .ok v' w' ∧ Own w' lo e size v' (n + m) (xs ++ news) ∧ w.grownBy w' v.ownBlock ∧
      (v'.ownBlock = v.ownBlock ∨ v'.ownBlock = some w.heap.size) := by
  subst hsize
  subst hby
  have hsmall : n + m ≤ 9223372036854775807 := by simp only [maxLen] at h63; omega
  have hlen : (xs ++ news).length = (n + m) * i.size := by rw [List.length_append, hown.1, hl, Nat.add_mul]
  by_cases hm : m = 0
  · subst hm
    have hn0 : news = [] := List.eq_nil_of_length_eq_zero (by simpa using hl)
    subst hn0
    refine ⟨v, w, ?_, by simpa using hown, ⟨rfl, rfl, rfl, Nat.le_refl _, fun _ _ _ => rfl⟩, .inl rfl⟩
    rcases hown.2 with ⟨rfl, rfl⟩ | ⟨g, cap, cur, rfl, _, _, hnc, _⟩
    · cases a <;> simp [Builtin.append_, run_underlying ht, sizeOf, typeInfo, hi, Builtin.lenOf, Builtin.firstCells, loadCells, loadCellsFrom]
    · cases a <;> simp [Builtin.append_, run_underlying ht, sizeOf, typeInfo, hi, Builtin.lenOf, Builtin.firstCells, loadCells, loadCellsFrom, hnc, storeCells]
  · have hne : news ≠ [] := by
      rintro rfl
      simp only [List.length_nil] at hl
      have : 0 < m * i.size := Nat.mul_pos (by omega) hsz
      omega
    obtain ⟨ad, rfl, hadlt, hcells⟩ : ∃ ad, a = some ad ∧ ad.block < w.heap.size ∧ ∀ j u, news[j]? = some u → w.cell? (ad.add j) = some u := by
      rcases hnews with h | h
      · exact absurd h hne
      · exact h
    have grown : ∀ (old : Nat), old < n + m → ∀ (row : Option Nat),
        Own (w.drew.alloc (.cells (xs.toArray ++ news.toArray ++ Builtin.zeroCells z.cells (grownCap w (n + m) old e - (n + m))) e)) lo e i.size
          (.slice (some ⟨w.heap.size, 0, none⟩) (n + m) (grownCap w (n + m) old e)) (n + m) (xs ++ news) ∧
        w.grownBy (w.drew.alloc (.cells (xs.toArray ++ news.toArray ++ Builtin.zeroCells z.cells (grownCap w (n + m) old e - (n + m))) e)) row := by
      intro old ho row
      have hge := grownCap_ge w (n + m) old e
      have hcm : grownCap w (n + m) old e ≤ maxLen := grownCap_le_maxLen w (n + m) old e h63
      refine ⟨Own.made w.drew _ _ _ hbase hge hcm ?_ ?_, ⟨rfl, rfl, rfl, by simp, fun k hk _ => Below.heap_alloc w.drew _ k hk⟩⟩
      · simp only [Array.size_append, List.size_toArray, size_zeroCells, hzs, hown.1, hl, ← Nat.add_mul]
        congr 1
        omega
      · simp only [Array.toList_append, List.append_assoc]
        rw [← List.append_assoc, ← hlen]
        exact List.take_left
    rcases hown.2 with ⟨rfl, rfl⟩ | ⟨g, cap, cur, rfl, hbg, hg, hnc, hcm, hcs, htake⟩
    · have hx : xs = [] := List.eq_nil_of_length_eq_zero (by simpa using hown.1)
      subst hx
      have hr := run_append_nil (P := P) w t ty e i z ht hi hz ad m c news hl hcells (by omega) (by omega) (by have hb := hbytes; simp only [Nat.zero_add] at hb; omega)
      have hgr := grown 0 (by omega) (Value.ownBlock (.slice none 0 0))
      simp only [Nat.zero_add, List.nil_append, Array.empty_append] at hgr ⊢
      exact ⟨_, _, hr, hgr.1, hgr.2, .inr rfl⟩
    · by_cases hroom : n + m ≤ cap
      · have hfit : n * i.size + 0 + news.length ≤ cur.size := by rw [hl, hcs, Nat.add_zero, ← Nat.add_mul]; exact Nat.mul_le_mul_right _ hroom
        have hf := run_firstCells_some (P := P) w i.size m ad m c news hl hcells
        have hst := storeCells_row P g (n * i.size) e news 0 cur w hg hfit h1
        simp only [Nat.add_zero] at hst
        have hr : (Builtin.append_ #[t, t] ty #[.slice (some ⟨g, 0, none⟩) n cap, .slice (some ad) m c]).run P w =
            .ok (.slice (some ⟨g, 0, none⟩) (n + m) cap) (w.setRow g (cur.toList.take (n * i.size) ++ news ++ cur.toList.drop (n * i.size + news.length)).toArray) := by
          simp [Builtin.append_, run_underlying ht, sizeOf, typeInfo, hi, Builtin.lenOf, hroom, hf, Addr.add_lit, hst]
        refine ⟨_, _, hr, ⟨hlen, .inr ⟨g, cap, _, rfl, hbg, hg.setRow_at _ ?_, hroom, hcm, ?_, ?_⟩⟩, ⟨rfl, rfl, rfl, by simp, fun k _ hk => setRow_other w g k _ (fun e => hk (by simp [Value.ownBlock, e]))⟩, .inl rfl⟩
        · simp only [List.size_toArray, List.length_append, List.length_take, List.length_drop, Array.length_toList]
          omega
        · simp only [List.size_toArray, List.length_append, List.length_take, List.length_drop, Array.length_toList]
          omega
        · rw [htake, ← hlen]
          exact List.take_left
      · have holds : ∀ j u, xs[j]? = some u → w.cell? ((⟨g, 0, none⟩ : Addr).add j) = some u := by
          intro j u hu
          have hadd : (⟨g, 0, none⟩ : Addr).add j = ⟨g, j, none⟩ := by unfold Addr.add; split <;> simp_all
          rw [hadd, hg.cell]
          rw [← htake, List.getElem?_take] at hu
          split at hu
          · simpa using hu
          · cases hu
        have hr := run_append_grow (P := P) w t ty e i z ht hi hz ⟨g, 0, none⟩ n cap xs hown.1 holds ad m c news hl hcells (by omega) (by omega) (growslice_fits (by omega) hbytes)
        have hgr := grown cap (by omega) (Value.ownBlock (.slice (some ⟨g, 0, none⟩) n cap))
        exact ⟨_, _, hr, hgr.1, hgr.2, .inr rfl⟩

/-- What is known of a slice type and its elements. -/
def Elem (P : Program) (t e : TypeId) (size bytes : Nat) : Prop :=
  ∃ i z, P.underlying t = some (.slice e) ∧ P.info? e = some i ∧ i.zero = some z ∧ i.size = size ∧ i.bytes = bytes ∧ z.cells.size = size ∧ 0 < size

section
variable {P : Program} {ops : Array Oper} {rest : List Oper} {o : Oper} {a : Act} {w : World} {Q : Exit → Act → World → Prop} {K : Act → World → Prop}

theorem wp_app (s x : Operand) (t : TypeId) (ho : o.op = .call { callee := .builtin .append, args := #[s, x], argTypes := #[t, t] })
    {e : TypeId} {size bytes : Nat} (hel : Elem P t e size bytes) {lo : Nat} {v : Value} {n : Nat} {xs : List Value} (hs : a.eval s = v) (hown : Own w lo e size v n xs)
    {ad : Option Addr} {m c : Nat} {news : List Value} (hx : a.eval x = .slice ad m c) (hl : news.length = m * size) (hnews : Lies w ad news) (h1 : ∀ u ∈ news, u.oneCell' = true)
    (h63 : n + m ≤ maxLen) (hbytes : (n + m) * bytes ≤ 140737488355328) (hbase : lo ≤ w.heap.size)
    (h : ∀ v' w', Own w' lo e size v' (n + m) (xs ++ news) → w.grownBy w' v.ownBlock → (v'.ownBlock = v.ownBlock ∨ v'.ownBlock = some w.heap.size) → K (a.put o.dst v') w') : o.wp P a w K Q := by
  obtain ⟨i, z, ht, hi, hz, hsize, hby, hzs, hsz⟩ := hel
  obtain ⟨v', w', hrun, h2, h3, h4⟩ := run_append (P := P) w lo t o.type e i z size bytes ht hi hz hsize hby hzs hsz v n xs hown ad m c news hl hnews h1 h63 hbytes hbase
  unfold Oper.wp execOp
  simp only [ho, resolve, invoke, builtin, Sem.run_bind, Sem.run_pure, Result.andThen_ok, List.map_toArray, List.map_cons, List.map_nil, hs, hx, hrun]
  exact h v' w' h2 h3 h4

/-- 'append' onto a slice of the call's own. -/
theorem wpList_app (hgd : o.guard = none) (s x : Operand) (t : TypeId) (ho : o.op = .call { callee := .builtin .append, args := #[s, x], argTypes := #[t, t] })
    {e : TypeId} {size bytes : Nat} (hel : Elem P t e size bytes) {lo : Nat} {v : Value} {n : Nat} {xs : List Value} (hs : a.eval s = v) (hown : Own w lo e size v n xs)
    {ad : Option Addr} {m c : Nat} {news : List Value} (hx : a.eval x = .slice ad m c) (hl : news.length = m * size) (hnews : Lies w ad news) (h1 : ∀ u ∈ news, u.oneCell' = true)
    (h63 : n + m ≤ maxLen) (hbytes : (n + m) * bytes ≤ 140737488355328) (hbase : lo ≤ w.heap.size)
    (h : ∀ v' w', Own w' lo e size v' (n + m) (xs ++ news) → w.grownBy w' v.ownBlock → (v'.ownBlock = v.ownBlock ∨ v'.ownBlock = some w.heap.size) → wpList P ops Q rest (a.put o.dst v') w') : wpList P ops Q (o :: rest) a w :=
  wpList_plain hgd fun _ hK => wp_app s x t ho hel hs hown hx hl hnews h1 h63 hbytes hbase fun v' w' h2 h3 h4 => hK _ _ (h v' w' h2 h3 h4)

/-- An operation whose run is known. -/
theorem wpList_run (hgd : o.guard = none) (v : Value) (w' : World) (hr : (execOp a.eval o).run P w = .ok (.value v) w') (h : wpList P ops Q rest (a.put o.dst v) w') : wpList P ops Q (o :: rest) a w :=
  wpList_plain hgd fun _ hK => by unfold Oper.wp; rw [hr]; exact hK _ _ h

theorem wpList_conv (hgd : o.guard = none) (s d : TypeId) (x : Operand) (ho : o.op = .convert s d x) {u v : Value} {w' : World} (hx : a.eval x = u) (hr : (convert s d u).run P w = .ok v w')
    (h : wpList P ops Q rest (a.put o.dst v) w') : wpList P ops Q (o :: rest) a w :=
  wpList_run hgd v w' (by unfold execOp; simp only [ho, hx, Sem.run_bind, hr, Result.andThen_ok, Sem.run_pure]) h
end

/-- Bytes as cells, texts as cells. -/
def bv (l : List UInt8) : List Value := l.map fun b => .int .u8 b.toNat
def sv (l : List (List UInt8)) : List Value := l.map fun s => .string ⟨s.toArray⟩

theorem lies_one (w : World) (u : Value) (e : TypeId) : Lies (w.alloc (.cells #[u] e)) (some ⟨w.heap.size, 0, none⟩) [u] := by
  refine .inr ⟨_, rfl, by simp, fun j x hj => ?_⟩
  cases j with
  | zero => simpa [Addr.add, World.cell?_alloc_new] using hj
  | succ j => simp at hj

/-- 'string(b)'. -/
theorem run_string_of {P : Program} (w : World) (src dst e : TypeId) (hs : P.underlying src = some (.slice e)) (he : P.underlying e = some (.int .u8)) (hd : P.underlying dst = some .string)
    (a : Option Addr) (n cap : Nat) (l : List UInt8) (hn : n = l.length) (hl : Lies w a (bv l)) : (convert src dst (.slice a n cap)).run P w = .ok (.string ⟨l.toArray⟩) w := by
  subst hn
  rcases hl with h | ⟨ad, rfl, _, hc⟩
  · have : l = [] := by simpa [bv] using h
    subst this
    cases a with
    | none => simp [convert, run_underlying hs, run_underlying hd, run_underlying he, Conv.bytesToString]; rfl
    | some ad => exact run_convert_bytes_back w src dst e ad cap [] hs he hd (by simp)
  · exact run_convert_bytes_back w src dst e ad cap l hs he hd (fun j hj => hc j _ (by simp [bv, hj]))

/-- '[]byte(s)'. -/
theorem run_bytes_of {P : Program} (w : World) (src dst e : TypeId) (hs : P.underlying src = some .string) (hd : P.underlying dst = some (.slice e)) (he : P.underlying e = some (.int .u8)) (s : ByteArray)
    (hlen : s.size ≤ maxLen) : ∃ v w', (convert src dst (.string s)).run P w = .ok v w' ∧ Own w' w.heap.size e 1 v s.size (bv s.data.toList) ∧ w.grownBy w' none ∧ v.ownBlock = some w.heap.size := by
  refine ⟨_, _, run_bytes_of_string w src dst e s hs hd he, ⟨by simp [bv], .inr ⟨w.heap.size, _, _, rfl, Nat.le_refl _, ⟨_, heap_alloc_new w.drew _, .inr (Nat.le_refl _)⟩, grownCap_ge w _ _ _, grownCap_le_maxLen w _ _ _ hlen, ?_, ?_⟩⟩,
    ⟨rfl, rfl, rfl, by simp, fun k hk _ => Below.heap_alloc w.drew _ k hk⟩, rfl⟩
  · have := grownCap_ge w s.size 0 e
    simp [bytesRow]
    omega
  · simp [bytesRow, bv]

theorem Own.bytes {w : World} {lo : Nat} {e : TypeId} (s : ByteArray) (cap g : Nat) (h : s.size ≤ cap) (hm : cap ≤ maxLen) (hlo : lo ≤ w.heap.size) (hg : g = w.heap.size) :
    Own (w.alloc (.cells (bytesRow s cap) e ((bytesRow s cap).size, (bytesRow s cap).size + 1))) lo e 1 (.slice (some ⟨g, 0, none⟩) s.size cap) s.size (bv s.data.toList) := by
  subst hg
  refine ⟨by simp [bv], .inr ⟨w.heap.size, _, _, rfl, hlo, ⟨_, heap_alloc_new w _, .inr (Nat.le_refl _)⟩, h, hm, ?_, ?_⟩⟩
  · simp [bytesRow]
    omega
  · simp [bytesRow, bv]

theorem Own.made_ {w : World} {lo : Nat} {e : TypeId} {size : Nat} (g n : Nat) (cur : Array Value) (hlo : lo ≤ w.heap.size) (hg : g = w.heap.size) (hm : n ≤ maxLen) (hs : cur.size = n * size) :
    Own (w.alloc (.cells cur e)) lo e size (.slice (some ⟨g, 0, none⟩) n n) n cur.toList := by
  subst hg
  exact Own.made w cur n n hlo (Nat.le_refl _) hm hs (by rw [← hs, ← Array.length_toList]; exact List.take_length)

theorem grown_trans {w a b : World} {row row' : Option Nat} (h : w.grownBy a row) (k : a.grownBy b row') (hr : ∀ g, row' = some g → g < w.heap.size → row = some g) : w.grownBy b row := by
  refine ⟨k.os.trans h.os, k.tape.trans h.tape, k.output.trans h.output, Nat.le_trans h.size k.size, fun i hi hne => ?_⟩
  rw [k.block i (Nat.lt_of_lt_of_le hi h.size) (fun e => hne (hr i e.symm hi).symm)]
  exact h.block i hi hne
theorem grown_refl (w : World) (row : Option Nat) : w.grownBy w row := ⟨rfl, rfl, rfl, Nat.le_refl _, fun _ _ _ => rfl⟩
theorem grown_drew {w a : World} {row : Option Nat} (h : w.grownBy a row) : w.grownBy a.drew row := ⟨h.os, h.tape, h.output, h.size, h.block⟩
theorem grown_alloc {w a : World} {row : Option Nat} (h : w.grownBy a row) (o : Obj) : w.grownBy (a.alloc o) row := grown_trans h (World.grownBy_alloc a o none) (by simp)
theorem grown_weak {w a : World} {row : Option Nat} (h : w.grownBy a none) : w.grownBy a row := ⟨h.os, h.tape, h.output, h.size, fun i hi _ => h.block i hi (by simp)⟩
theorem grown_set {w a : World} {row : Option Nat} (h : w.grownBy a row) (p : Addr) (u : Value) (hp : p.block < w.heap.size → row = some p.block) : w.grownBy (a.setCell p u) row := by
  refine grown_trans h (row' := some p.block) ⟨rfl, rfl, rfl, by simp [World.setCell], fun k _ hne => Below.heap_setCell _ _ _ _ (by simpa using hne)⟩ ?_
  intro g e hg
  injection e with e
  subst e
  exact hp hg
theorem grown_set_own {w a : World} {g : Nat} (h : w.grownBy a (some g)) (i : Nat) (u : Value) : w.grownBy (a.setCell ⟨g, i, none⟩ u) (some g) := grown_set h _ _ (fun _ => rfl)
theorem grown_below {w a : World} (h : w.grownBy a none) : Below w.heap.size w a := ⟨h.os, h.tape, h.output, h.size, fun k hk => h.block k hk (by simp)⟩

theorem grown_drewN {w a : World} {row : Option Nat} (h : w.grownBy a row) (n : Nat) : w.grownBy (a.drewN n) row := ⟨h.os, h.tape, h.output, h.size, h.block⟩

theorem cell_alloc_of {w : World} {a : Addr} {v : Value} (h : w.cell? a = some v) (o : Obj) : (w.alloc o).cell? a = some v := by
  rw [World.cell?_alloc_lt w o _ (World.block_lt_of_cell? w _ h)]; exact h

theorem size_le_alloc {n : Nat} {w : World} (h : n ≤ w.heap.size) (o : Obj) : n ≤ (w.alloc o).heap.size := by simp; omega

theorem Own.form {w : World} {lo : Nat} {e : TypeId} {size : Nat} {v : Value} {n : Nat} {xs : List Value} (h : Own w lo e size v n xs) : ∃ a c, v = .slice a n c := by
  obtain ⟨a, c, h, _⟩ := h.lies
  exact ⟨a, c, h⟩

theorem Own.lies_ {w : World} {lo : Nat} {e : TypeId} {size : Nat} {a : Option Addr} {m c : Nat} {n : Nat} {xs : List Value} (h : Own w lo e size (.slice a m c) n xs) : Lies w a xs := by
  obtain ⟨a', c', h, hl⟩ := h.lies
  injection h with h
  subst h
  exact hl

/-- 'append(s, u)': one element, which the statement has just laid in a block of its own. -/
theorem wpList_app1 {P : Program} {ops : Array Oper} {rest : List Oper} {o : Oper} {a : Act} {W : World} {Q : Exit → Act → World → Prop} (hgd : o.guard = none) (s x : Operand) (t : TypeId)
    (ho : o.op = .call { callee := .builtin .append, args := #[s, x], argTypes := #[t, t] })
    {e e' : TypeId} {bytes : Nat} (hel : Elem P t e 1 bytes) {lo : Nat} {v : Value} {n : Nat} {xs : List Value} (hs : a.eval s = v) (hown : Own W lo e 1 v n xs) {u : Value} {nb : Nat}
    (hx : a.eval x = .slice (some ⟨nb, 0, none⟩) 1 1) (hnb : nb = W.heap.size) (h1 : u.oneCell' = true) (hn : n + 1 ≤ maxLen) (hb : (n + 1) * bytes ≤ 140737488355328) (hbase : lo ≤ W.heap.size)
    (h : ∀ a' c' w', Own w' lo e 1 (.slice a' (n + 1) c') (n + 1) (xs ++ [u]) → W.grownBy w' v.ownBlock → wpList P ops Q rest (a.put o.dst (.slice a' (n + 1) c')) w') :
    wpList P ops Q (o :: rest) a (W.alloc (.cells #[u] e')) := by
  subst hnb
  refine wpList_app hgd s x t ho hel hs (hown.alloc _) hx (news := [u]) rfl (lies_one _ _ _) (by simpa using h1) hn hb (size_le_alloc hbase _) ?_
  intro v' w' h2 h3 _
  obtain ⟨a', c', rfl⟩ := h2.form
  refine h a' c' w' h2 (grown_trans (grown_weak (World.grownBy_alloc W _ none)) h3 ?_)
  intro g e _
  exact e

theorem Own.no_old {w : World} {lo : Nat} {e : TypeId} {size : Nat} {v : Value} {n : Nat} {xs : List Value} {row : Option Nat} (h : Own w lo e size v n xs) (B : Nat) (hB : B ≤ lo) :
    ∀ g, v.ownBlock = some g → g < B → row = some g := fun g hg hlt => by have := (h.lt g hg).1; omega

theorem bv_snoc (l : List UInt8) (b : UInt8) : bv (l ++ [b]) = bv l ++ [.int .u8 b.toNat] := by simp [bv]
theorem sv_snoc (l : List (List UInt8)) (s : List UInt8) : sv (l ++ [s]) = sv l ++ [.string ⟨s.toArray⟩] := by simp [sv]

theorem bcell {W w1 : World} (hb : Below W.heap.size W w1) : (∀ b o, b < W.heap.size → w1.cell? ⟨b, o, none⟩ = W.cell? ⟨b, o, none⟩) ∧ (∀ b o, b < W.heap.size → w1.frozen? ⟨b, o, none⟩ = W.frozen? ⟨b, o, none⟩) :=
  ⟨fun b o h => hb.cell (p := ⟨b, o, none⟩) h, fun b o h => hb.frozen (p := ⟨b, o, none⟩) h⟩

end Go.Proofs.YtlimecojoiimaaaGreat

/-
  Drawn values can be printed, and are short.
-/
import Derived.Test.YtopebociobgmhaaRg
namespace Go.Proofs.Ytopebociobgmhaa
open Go.RowKit

/-- A value that can be printed, on at most b bytes. -/
structure Pr (b : Nat) (j : J) : Prop where
  ok : FnOK Try.prog fPrint [.agg (vwJ j)] [] ⟨.str (pj j), [], []⟩
  len : (pj j).length ≤ b
theorem Pr.more {b c : Nat} {j : J} (h : Pr b j) (hc : b ≤ c) : Pr c j := ⟨h.ok, Nat.le_trans h.len hc⟩

theorem pjs_len (o : Bool) (b : Nat) : ∀ (its : List J) (a : Bool) (ks : List (List UInt8)), (∀ x ∈ its, (pj x).length ≤ b) → (∀ s ∈ ks, s.length ≤ 2) → (pjs o a ks its).length ≤ its.length * (b + 8)
  | [], _, _, _, _ => by simp [pjs]
  | j :: js, a, ks, h, hk => by
    have h1 := h j (by simp)
    have ih := pjs_len o b js false ks.tail (fun x hx => h x (by simp [hx])) (fun s hs => hk s (List.mem_of_mem_tail hs))
    have h2 : (quo (ks.headD [])).length ≤ 6 := by
      have := quo_len (ks.headD [])
      have h3 : (ks.headD []).length ≤ 2 := by
        cases ks with
        | nil => simp
        | cons k ks => exact hk k (by simp)
      omega
    rw [pjs, List.length_cons, Nat.add_mul, Nat.one_mul]
    simp only [List.length_append]
    have h3 : (if a = true then ([] : List UInt8) else [44]).length ≤ 1 := by split <;> simp
    have h4 : (if o = true then quo (ks.headD []) ++ [58] else ([] : List UInt8)).length ≤ 7 := by
      split
      · rw [List.length_append, List.length_cons, List.length_nil]; omega
      · simp
    omega

theorem prOK_none (k n : Int) (t : List UInt8) : PrOK (.mk k n t [] []) := ⟨fun x h => (nomatch h), fun x h => (nomatch h), by simp [J.items], fun _ => by simp [J.items, J.keys]⟩
theorem pr_null (n : Int) (t : List UInt8) (hn : -9223372036854775808 < n ∧ n ≤ 9223372036854775807) (ht : t.length ≤ 1048576) : Pr 24 (.mk 0 n t [] []) :=
  ⟨print_top _ ⟨fun h => by simp [J.kind] at h, hn, ht⟩ (prOK_none ..) (by simp [pjs, J.items]), by simp [pj]⟩
theorem pr_bool (n : Int) (hn : 0 ≤ n ∧ n < 2) : Pr 24 (.mk 1 n [] [] []) :=
  ⟨print_top _ ⟨fun _ => hn, by simp only [J.n]; omega, by simp [J.t]⟩ (prOK_none ..) (by simp [pjs, J.items]), by
    have : n = 0 ∨ n = 1 := by omega
    rcases this with rfl | rfl <;> simp [pj]⟩
theorem pr_num (n : Int) (hn : -9223372036854775808 < n ∧ n ≤ 9223372036854775807) : Pr 24 (.mk 2 n [] [] []) :=
  ⟨print_top _ ⟨fun h => by simp [J.kind] at h, hn, by simp [J.t]⟩ (prOK_none ..) (by simp [pjs, J.items]), by
    have := dg_len n
    rw [pj_eq]; simp [J.kind, J.n]; omega⟩
theorem pr_text (t : List UInt8) (ht : t.length ≤ 11) : Pr 24 (.mk 3 0 t [] []) :=
  ⟨print_top _ ⟨fun h => by simp [J.kind] at h, by simp [J.n], by simp only [J.t]; omega⟩ (prOK_none ..) (by simp [pjs, J.items]), by
    have := quo_len t
    rw [pj_eq]; simp [J.kind, J.t]; omega⟩
theorem pr_many {b : Nat} (hb : b ≤ 1000000) (k : Int) (hk : k = 4 ∨ k = 5) (ks : List (List UInt8)) (L : List J) {m : Nat} (hm : m ≤ 1000) (hL : L.length ≤ m) (h : ∀ x ∈ L, Pr b x) (hs : ∀ s ∈ ks, s.length ≤ 2) (hkl : k = 5 → L.length ≤ ks.length) : Pr (m * (b + 8) + 2) (.mk k 0 [] ks L) := by
  have h1 := fun o a => pjs_len o b L a ks (fun x hx => (h x hx).len) hs
  have h2 : L.length * (b + 8) ≤ m * (b + 8) := Nat.mul_le_mul_right _ hL
  have h3 : m * (b + 8) ≤ 1000 * (b + 8) := Nat.mul_le_mul_right _ hm
  refine ⟨print_top _ ⟨fun h => by simp only [J.kind] at h; omega, by simp [J.n], by simp [J.t]⟩ ⟨fun x hx => ⟨(h x hx).ok, ?_⟩, fun s hx => ?_, ?_, hkl⟩ ?_, ?_⟩
  · have := (h x hx).len; omega
  · have := hs s hx; omega
  · simp only [J.items]; omega
  · have := h1 (k == 5) true
    simp only [J.kind, J.items, J.keys]; omega
  · have g1 := h1 false true
    have g2 := h1 true true
    rcases hk with rfl | rfl
    · rw [show pj (.mk 4 0 [] ks L) = [91] ++ pjs false true ks L ++ [93] by rw [pj]; rfl]
      simp only [List.length_append, List.length_cons, List.length_nil]; omega
    · rw [show pj (.mk 5 0 [] ks L) = [123] ++ pjs true true ks L ++ [125] by rw [pj]; rfl]
      simp only [List.length_append, List.length_cons, List.length_nil]; omega

/-- Everything that a draw can give can be printed. -/
def DrawPr (f : Src → J × Src) (q b : Nat) : Prop := ∀ x c, x.OK (c + q) → Pr b (f x).1

theorem drawList_pr {f : Src → J × Src} {d : Int} {q b : Nat} (hf : Draw f d q) (hp : DrawPr f q b) : ∀ (i : Nat) (x : Src) (L : List J) (c : Nat), x.OK (c + i * q) → (∀ y ∈ L, Pr b y) → (∀ y ∈ (drawList f i x L).1, Pr b y) ∧ (drawList f i x L).1.length = L.length + i
  | 0, x, L, c, h, hL => ⟨hL, rfl⟩
  | i + 1, x, L, c, h, hL => by
    have hc : x.OK ((c + i * q) + q) := by rw [Nat.add_mul, Nat.one_mul, ← Nat.add_assoc] at h; exact h
    unfold drawList
    have := drawList_pr hf hp i (f x).2 (L ++ [(f x).1]) c (hf.cost x _ hc) (by
      intro y hy
      rcases List.mem_append.1 hy with hy | hy
      · exact hL y hy
      · rw [List.mem_singleton.1 hy]; exact hp x _ hc)
    refine ⟨this.1, ?_⟩
    rw [this.2]; simp; omega
theorem drawObj_pr {f : Src → J × Src} {d : Int} {q b : Nat} (hf : Draw f d q) (hp : DrawPr f q b) : ∀ (t : List (List UInt8)) (x : Src) (ks : List (List UInt8)) (L : List J) (c : Nat), x.OK (c + t.length * (q + 3)) → (∀ y ∈ L, Pr b y) → (∀ s ∈ t, s.length ≤ 2) → (∀ s ∈ ks, s.length ≤ 2) → (∀ y ∈ (drawObj f t x ks L).2.1, Pr b y) ∧ (∀ s ∈ (drawObj f t x ks L).1, s.length ≤ 2) ∧ (drawObj f t x ks L).2.1.length ≤ L.length + t.length
  | [], x, ks, L, c, h, hL, ht, hk => ⟨hL, hk, by simp [drawObj]⟩
  | k :: t, x, ks, L, c, h, hL, ht, hk => by
    have hc : x.OK ((c + t.length * (q + 3) + q) + 3) := by
      refine h.less ?_
      rw [List.length_cons, Nat.add_mul, Nat.one_mul]; omega
    have hx := chanceF_ok (n := 2) hc (by omega)
    unfold drawObj
    split
    · have := drawObj_pr hf hp t (f (chanceF x 2).2).2 (ks ++ [k]) (L ++ [(f (chanceF x 2).2).1]) c (hf.cost _ _ hx) (by
        intro y hy
        rcases List.mem_append.1 hy with hy | hy
        · exact hL y hy
        · rw [List.mem_singleton.1 hy]; exact hp _ _ hx) (fun s hs => ht s (by simp [hs])) (by
        intro y hy
        rcases List.mem_append.1 hy with hy | hy
        · exact hk y hy
        · rw [List.mem_singleton.1 hy]; exact ht k (by simp))
      refine ⟨this.1, this.2.1, ?_⟩
      have := this.2.2
      simp at this ⊢; omega
    · have := drawObj_pr hf hp t (chanceF x 2).2 ks L c (hx.less (by omega)) hL (fun s hs => ht s (by simp [hs])) hk
      refine ⟨this.1, this.2.1, ?_⟩
      have := this.2.2
      simp at this ⊢; omega

theorem jsonK_pr {f : Src → J × Src} {d : Int} {q b : Nat} {k : Int} (hf : 4 ≤ k → Draw f d q ∧ DrawPr f q b) (hb : 24 ≤ 4 * (b + 8) + 2 ∧ b ≤ 1000000) {x : Src} {c : Nat} (h : x.OK (c + (4 * q + 15))) (hk : 0 ≤ k ∧ k < 6) : Pr (4 * (b + 8) + 2) (jsonK f k x).1 ∧ (k < 4 → Pr 24 (jsonK f k x).1) := by
  unfold jsonK
  split
  · have := pr_null 0 [] (by omega) (by simp)
    exact ⟨this.more hb.1, fun _ => this⟩
  split
  · have h1 := nextF_ok (c := c) (n := 2) (h.less (by omega)) (by omega)
    have := pr_bool _ h1.2
    exact ⟨this.more hb.1, fun _ => this⟩
  split
  · have h1 := nextF_ok (c := c + 3) (n := 20) (h.less (by omega)) (by omega)
    have h2 := nextF_ok (c := c) (n := 6) h1.1 (by omega)
    have h5 : 0 ≤ (nextF (nextF x 20).2 6).1.tdiv 5 := Int.tdiv_nonneg h2.2.1 (by omega)
    have h6 : (nextF (nextF x 20).2 6).1.tdiv 5 < 2 := by rw [Int.tdiv_eq_ediv_of_nonneg h2.2.1]; omega
    have : Pr 24 (.mk 2 ([(nextF x 20).1 - 9, 1000000000].getD ((nextF (nextF x 20).2 6).1.tdiv 5).toNat 0) [] [] []) := by
      refine pr_num _ ?_
      generalize (nextF (nextF x 20).2 6).1.tdiv 5 = z at h5 h6
      have : z = 0 ∨ z = 1 := by omega
      rcases this with rfl | rfl
      · show -9223372036854775808 < (nextF x 20).1 - 9 ∧ (nextF x 20).1 - 9 ≤ 9223372036854775807
        omega
      · show -9223372036854775808 < (1000000000 : Int) ∧ (1000000000 : Int) ≤ 9223372036854775807
        omega
    exact ⟨this.more hb.1, fun _ => this⟩
  split
  · have h1 := pickF_ok (c := c) (L := jsTexts) (h.less (by omega)) (by simp [jsTexts])
    have : Pr 24 (.mk 3 0 (pickF x jsTexts).1 [] []) := by
      refine pr_text _ ?_
      have : ∀ s ∈ jsTexts, s.length ≤ 11 := by decide
      exact this _ h1.2
    exact ⟨this.more hb.1, fun _ => this⟩
  split
  · obtain ⟨hf1, hf2⟩ := hf (by omega)
    have h1 := nextF_ok (c := c + 4 * q) (n := 4) (h.less (by omega)) (by omega)
    have h3 : (nextF x 4).1.toNat ≤ 4 := by omega
    have h4 := Nat.mul_le_mul_right q h3
    have := drawList_pr hf1 hf2 (nextF x 4).1.toNat (nextF x 4).2 [] c (h1.1.less (by omega)) (fun y hy => nomatch hy)
    refine ⟨pr_many hb.2 4 (.inl rfl) [] _ (m := 4) (by omega) (by rw [this.2]; simpa using h3) this.1 (fun s hs => nomatch hs) (fun h => by omega), fun h => by omega⟩
  · obtain ⟨hf1, hf2⟩ := hf (by omega)
    have := drawObj_pr hf1 hf2 objKeys x [] [] c (h.less (by simp only [objKeys, List.length_cons, List.length_nil]; omega)) (fun y hy => nomatch hy) (by decide) (fun s hs => nomatch hs)
    have hl := drawObj_len (f := f) objKeys x [] [] rfl
    exact ⟨pr_many hb.2 5 (.inr rfl) _ _ (m := 4) (by omega) this.2.2 this.1 this.2.1 (fun _ => by omega), fun h => by omega⟩

def bF : Nat → Nat
  | 0 => 24
  | d + 1 => 4 * (bF d + 8) + 2
theorem bF_ge : ∀ d, 24 ≤ bF d
  | 0 => Nat.le_refl _
  | d + 1 => by have := bF_ge d; unfold bF; omega
theorem json_pr : ∀ (d : Nat), d ≤ 6 → DrawPr (jsonF d) (qF d) (bF d)
  | 0, _ => by
    intro x c h
    have h1 := nextF_ok (c := c + 18) (n := 6) h (by omega)
    have h2 := nextF_ok (c := c + 15) (n := 4) h1.1 (by omega)
    exact (jsonK_pr (q := 0) (d := 0) (b := 24) (fun h => by omega) (by omega) h2.1 (by omega)).2 (by omega)
  | d + 1, hd => by
    intro x c h
    simp only [qF] at h
    have h1 := nextF_ok (c := c + (4 * qF d + 15)) (n := 6) (h.less (by omega)) (by omega)
    have hb : bF d ≤ 1000000 := by
      have : d = 0 ∨ d = 1 ∨ d = 2 ∨ d = 3 ∨ d = 4 ∨ d = 5 := by omega
      rcases this with rfl | rfl | rfl | rfl | rfl | rfl <;> decide
    have hg := bF_ge d
    exact (jsonK_pr (fun _ => ⟨json_draw d (by omega), json_pr d (by omega)⟩) (by omega) h1.1 h1.2).1

end Go.Proofs.Ytopebociobgmhaa

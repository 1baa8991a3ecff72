/-
  A printed list is one text of a stream.
  What a drawn value is like.
  The program's JsonOK in plain Lean; drawn values are right.
  The program's isPlain, areKeys, partOK.
  The program's JsonOK.
  From a walk's contract (no block of ours is written) to a contract of a call.
  Layouts of library functions at this program (printed by tools/lays.py).
  The library's Count, Join and Itoa as contracts of calls.
  Itoa's digits and Join's parts are the reference's.
  The evaluator of closed calls: deep, by fuel.
  sync.Once, its parts: the lock, the two calls that doSlow defers.
  sync.Once, not yet done, the lock free: the function is called, 'done' is stored.
  Steps of the machine's memory one behind the other.
  sync.Once's Do as a contract: what the function does, and 'done'.
  Closed calls: results reckoned whole.
  A call whose blocks are not looked at any more.
-/
import Derived.Test.YtjgancippgpdhaaGreatDoorTxAd
import Derived.Shelf.LaysM
import Derived.Shelf.Strings.OnBuilder
import Derived.Shelf.Strconv.Itoa3
import Derived.Shelf.Strings.Count
import Derived.Test.YtjgancippgpdhaaGreatDoorRows
import Derived.Lib.Join
import Derived.Tactics
import Derived.Tactics2
import Derived.Defers
import Derived.Laws.Pointers
import Derived.Laws.LoneSync
import Derived.RegionTactic
import Derived.RegionCalls
import Derived.ChangeAlike
import Derived.Laws.NewBlocks
namespace Go.Proofs.YtjgancippgpdhaaGreatDoor
open Go.RowKit
set_option maxRecDepth 100000

/-- Within a text, its brackets closed again: D levels deep. -/
def Ins (D : Nat) (t : List UInt8) : Prop := ∀ (f : Fr.F) (out : List (List UInt8)), f.closed = false → f.quote = false → f.skip = false → 1 ≤ f.depth → f.depth + D ≤ 12 → f.buf.length + t.length ≤ 3000 → t.foldl Fr.sStep ⟨f, out⟩ = ⟨{ f with buf := f.buf ++ t }, out⟩
/-- Within quotes. -/
def InQ (t : List UInt8) : Prop := ∀ (f : Fr.F) (out : List (List UInt8)), f.closed = false → f.quote = true → f.skip = false → 1 ≤ f.depth → f.buf.length + t.length ≤ 3000 → t.foldl Fr.sStep ⟨f, out⟩ = ⟨{ f with buf := f.buf ++ t }, out⟩

theorem Ins.more {D E : Nat} {t : List UInt8} (h : Ins D t) (hE : D ≤ E) : Ins E t := fun f out h1 h2 h3 h4 h5 h6 => h f out h1 h2 h3 h4 (by omega) h6
theorem Ins.nil (D : Nat) : Ins D [] := fun f out _ _ _ _ _ _ => by simp
theorem InQ.nil : InQ [] := fun f out _ _ _ _ _ => by simp
theorem Ins.app {D : Nat} {a b : List UInt8} (ha : Ins D a) (hb : Ins D b) : Ins D (a ++ b) := by
  intro f out h1 h2 h3 h4 h5 h6
  rw [List.length_append] at h6
  rw [List.foldl_append, ha f out h1 h2 h3 h4 h5 (by omega), hb { f with buf := f.buf ++ a } out h1 h2 h3 h4 h5 (by simp only [List.length_append]; omega)]
  simp
theorem InQ.app {a b : List UInt8} (ha : InQ a) (hb : InQ b) : InQ (a ++ b) := by
  intro f out h1 h2 h3 h4 h6
  rw [List.length_append] at h6
  rw [List.foldl_append, ha f out h1 h2 h3 h4 (by omega), hb { f with buf := f.buf ++ a } out h1 h2 h3 h4 (by simp only [List.length_append]; omega)]
  simp

def plainB (c : UInt8) : Bool := (c.toNat : Int) != 34 && (c.toNat : Int) != 123 && (c.toNat : Int) != 91 && (c.toNat : Int) != 125 && (c.toNat : Int) != 93
theorem step_plain {c : UInt8} (hc : plainB c = true) (f : Fr.F) (out : List (List UInt8)) (h1 : f.closed = false) (h2 : f.quote = false) (h3 : f.skip = false) (h4 : 1 ≤ f.depth) (h6 : f.buf.length + 1 ≤ 3000) : Fr.sStep ⟨f, out⟩ c = ⟨{ f with buf := f.buf ++ [c] }, out⟩ := by
  obtain ⟨buf, d, q, k, cl⟩ := f
  simp only at h1 h2 h3 h4 h6
  subst h1 h2 h3
  simp only [plainB, Bool.and_eq_true, bne_iff_ne, ne_eq] at hc
  obtain ⟨⟨⟨⟨c1, c2⟩, c3⟩, c4⟩, c5⟩ := hc
  have hd : ¬ d = 0 := by omega
  have hl : ¬ 3000 < buf.length + 1 := by omega
  simp [Fr.sStep, Fr.sByte, hd, hl, c1, c2, c3, c4, c5]
theorem Ins.plain : ∀ (t : List UInt8), (∀ c ∈ t, plainB c = true) → Ins 0 t
  | [], _ => Ins.nil 0
  | c :: t, h => by
    have ih := Ins.plain t (fun x hx => h x (by simp [hx]))
    intro f out h1 h2 h3 h4 h5 h6
    rw [List.length_cons] at h6
    rw [List.foldl_cons, step_plain (h c (by simp)) f out h1 h2 h3 h4 (by omega), ih { f with buf := f.buf ++ [c] } out h1 h2 h3 h4 h5 (by simp only [List.length_append, List.length_cons, List.length_nil]; omega)]
    simp

theorem step_q {c : UInt8} (hc : ¬ c = 34) (hc2 : ¬ c = 92) (f : Fr.F) (out : List (List UInt8)) (h1 : f.closed = false) (h2 : f.quote = true) (h3 : f.skip = false) (h4 : 1 ≤ f.depth) (h6 : f.buf.length + 1 ≤ 3000) : Fr.sStep ⟨f, out⟩ c = ⟨{ f with buf := f.buf ++ [c] }, out⟩ := by
  obtain ⟨buf, d, q, k, cl⟩ := f
  simp only at h1 h2 h3 h4 h6
  subst h1 h2 h3
  have e1 : ¬ (c.toNat : Int) = 34 := fun e => hc (by rw [← UInt8.toNat_inj]; have : (34 : UInt8).toNat = 34 := rfl; omega)
  have e2 : ¬ (c.toNat : Int) = 92 := fun e => hc2 (by rw [← UInt8.toNat_inj]; have : (92 : UInt8).toNat = 92 := rfl; omega)
  have hd : ¬ d = 0 := by omega
  have hl : ¬ 3000 < buf.length + 1 := by omega
  simp [Fr.sStep, Fr.sByte, hd, hl, e1, e2]
theorem step_esc (c : UInt8) (f : Fr.F) (out : List (List UInt8)) (h1 : f.closed = false) (h2 : f.quote = true) (h3 : f.skip = false) (h4 : 1 ≤ f.depth) (h6 : f.buf.length + 2 ≤ 3000) : Fr.sStep (Fr.sStep ⟨f, out⟩ 92) c = ⟨{ f with buf := f.buf ++ [92, c] }, out⟩ := by
  obtain ⟨buf, d, q, k, cl⟩ := f
  simp only at h1 h2 h3 h4 h6
  subst h1 h2 h3
  have hd : ¬ d = 0 := by omega
  have hl : ¬ 3000 < buf.length + 1 := by omega
  have hl2 : ¬ 3000 < buf.length + 1 + 1 := by omega
  have e92 : ((92 : UInt8).toNat : Int) = 92 := rfl
  simp [Fr.sStep, Fr.sByte, hd, hl, hl2]
theorem InQ.esc : ∀ t : List UInt8, InQ (escL t)
  | [] => InQ.nil
  | c :: t => by
    rw [escL_cons]
    refine InQ.app ?_ (InQ.esc t)
    unfold escB
    split
    · intro f out h1 h2 h3 h4 h6
      simp only [List.length_cons, List.length_nil] at h6
      simp only [List.foldl_cons, List.foldl_nil]
      exact step_esc c f out h1 h2 h3 h4 (by omega)
    · split
      · intro f out h1 h2 h3 h4 h6
        simp only [List.length_cons, List.length_nil] at h6
        simp only [List.foldl_cons, List.foldl_nil]
        exact step_esc c f out h1 h2 h3 h4 (by omega)
      · rename_i a b
        intro f out h1 h2 h3 h4 h6
        simp only [List.length_cons, List.length_nil] at h6
        simp only [List.foldl_cons, List.foldl_nil]
        exact step_q a b f out h1 h2 h3 h4 (by omega)
theorem step_quote (f : Fr.F) (out : List (List UInt8)) (h1 : f.closed = false) (h3 : f.skip = false) (h4 : 1 ≤ f.depth) (h6 : f.buf.length + 1 ≤ 3000) : Fr.sStep ⟨f, out⟩ 34 = ⟨{ f with buf := f.buf ++ [34], quote := !f.quote }, out⟩ := by
  obtain ⟨buf, d, q, k, cl⟩ := f
  simp only at h1 h3 h4 h6
  subst h1 h3
  have hd : ¬ d = 0 := by omega
  have hl : ¬ 3000 < buf.length + 1 := by omega
  simp [Fr.sStep, Fr.sByte, hd, hl]
theorem Ins.quo (t : List UInt8) : Ins 0 (quo t) := by
  intro f out h1 h2 h3 h4 h5 h6
  unfold Proofs.YtjgancippgpdhaaGreatDoor.quo at h6 ⊢
  simp only [List.length_cons, List.length_append, List.length_nil] at h6
  rw [List.foldl_cons, step_quote f out h1 h3 h4 (by omega), List.foldl_append, InQ.esc t { f with buf := f.buf ++ [34], quote := !f.quote } out h1 (by simp [h2]) h3 h4 (by simp only [List.length_append, List.length_cons, List.length_nil]; omega)]
  simp only [List.foldl_cons, List.foldl_nil]
  rw [step_quote { f with buf := f.buf ++ [34] ++ escL t, quote := !f.quote } out h1 h3 h4 (by simp only [List.length_append, List.length_cons, List.length_nil]; omega)]
  simp [h2]

theorem step_open {c : UInt8} (hc : c = 123 ∨ c = 91) (f : Fr.F) (out : List (List UInt8)) (h1 : f.closed = false) (h2 : f.quote = false) (h3 : f.skip = false) (h4 : 0 ≤ f.depth) (h5 : f.depth + 1 ≤ 12) (h6 : f.buf.length + 1 ≤ 3000) : Fr.sStep ⟨f, out⟩ c = ⟨{ f with buf := f.buf ++ [c], depth := f.depth + 1 }, out⟩ := by
  obtain ⟨buf, d, q, k, cl⟩ := f
  simp only at h1 h2 h3 h4 h5 h6
  subst h1 h2 h3
  have hl : ¬ 3000 < buf.length + 1 := by omega
  have h12 : ¬ 12 < d + 1 := by omega
  rcases hc with rfl | rfl <;> simp [Fr.sStep, Fr.sByte, Fr.blank, hl, h12]
theorem step_close {c : UInt8} (hc : c = 125 ∨ c = 93) (f : Fr.F) (out : List (List UInt8)) (h1 : f.closed = false) (h2 : f.quote = false) (h3 : f.skip = false) (h4 : 1 ≤ f.depth) (h6 : f.buf.length + 1 ≤ 3000) : Fr.sStep ⟨f, out⟩ c = if f.depth = 1 then ⟨Fr.F.zero, out ++ [f.buf ++ [c]]⟩ else ⟨{ f with buf := f.buf ++ [c], depth := f.depth - 1 }, out⟩ := by
  obtain ⟨buf, d, q, k, cl⟩ := f
  simp only at h1 h2 h3 h4 h6
  subst h1 h2 h3
  have hl : ¬ 3000 < buf.length + 1 := by omega
  have hd : ¬ d = 0 := by omega
  by_cases e : d = 1
  · subst e
    rcases hc with rfl | rfl <;> simp [Fr.sStep, Fr.sByte, hl]
  · have e1 : ¬ d - 1 = 0 := by omega
    rcases hc with rfl | rfl <;> simp [Fr.sStep, Fr.sByte, hl, hd, e, e1]
theorem Ins.box {D : Nat} {a b : UInt8} {t : List UInt8} (ha : a = 123 ∨ a = 91) (hb : b = 125 ∨ b = 93) (h : Ins D t) : Ins (D + 1) ([a] ++ t ++ [b]) := by
  intro f out h1 h2 h3 h4 h5 h6
  simp only [List.length_append, List.length_cons, List.length_nil] at h6
  rw [List.foldl_append, List.foldl_append]
  simp only [List.foldl_cons, List.foldl_nil]
  rw [step_open ha f out h1 h2 h3 (by omega) (by omega) (by omega), h { f with buf := f.buf ++ [a], depth := f.depth + 1 } out h1 h2 h3 (by simp only; omega) (by simp only; omega) (by simp only [List.length_append, List.length_cons, List.length_nil]; omega)]
  rw [step_close hb { f with buf := f.buf ++ [a] ++ t, depth := f.depth + 1 } out h1 h2 h3 (by simp only; omega) (by simp only [List.length_append, List.length_cons, List.length_nil]; omega)]
  rw [if_neg (by simp only; omega)]
  simp
/-- A whole text: it comes out as it is. -/
theorem whole {D : Nat} {a b : UInt8} {t : List UInt8} (ha : a = 123 ∨ a = 91) (hb : b = 125 ∨ b = 93) (h : Ins D t) (hD : D ≤ 11) (hl : t.length ≤ 2998) (out : List (List UInt8)) : ([a] ++ t ++ [b]).foldl Fr.sStep ⟨Fr.F.zero, out⟩ = ⟨Fr.F.zero, out ++ [[a] ++ t ++ [b]]⟩ := by
  rw [List.foldl_append, List.foldl_append]
  simp only [List.foldl_cons, List.foldl_nil]
  rw [step_open ha Fr.F.zero out rfl rfl rfl (by simp [Fr.F.zero]) (by simp [Fr.F.zero]) (by simp [Fr.F.zero]), h { Fr.F.zero with buf := Fr.F.zero.buf ++ [a], depth := Fr.F.zero.depth + 1 } out rfl rfl rfl (by simp [Fr.F.zero]) (by simp only [Fr.F.zero]; omega) (by simp [Fr.F.zero]; omega)]
  rw [step_close hb { Fr.F.zero with buf := Fr.F.zero.buf ++ [a] ++ t, depth := Fr.F.zero.depth + 1 } out rfl rfl rfl (by simp [Fr.F.zero]) (by simp [Fr.F.zero]; omega)]
  rw [if_pos (by simp [Fr.F.zero])]
  simp [Fr.F.zero]

mutual
/-- How deep a value is. -/
def jdep : J → Nat
  | .mk k _ _ _ its => if k = 0 ∨ k = 1 ∨ k = 2 ∨ k = 3 then 0 else jdeps its + 1
def jdeps : List J → Nat
  | [] => 0
  | j :: js => max (jdep j) (jdeps js)
end
theorem plain_dg {m : Int} (h0 : 0 ≤ m) (hm : m < 10) : plainB (UInt8.ofNat (48 + m).toNat) = true := by
  have : (UInt8.ofNat (48 + m).toNat).toNat = (48 + m).toNat := by rw [UInt8.toNat_ofNat']; omega
  simp only [plainB, Bool.and_eq_true, bne_iff_ne, ne_eq, this]
  omega
theorem dgs_plain : ∀ (k : Nat) (n : Int), 0 ≤ n → ∀ c ∈ dgs k n, plainB c = true
  | 0, _, _ => by simp [dgs]
  | k + 1, n, hn => by
    unfold dgs
    split
    · rename_i h
      intro c hc
      simp only [List.mem_singleton] at hc
      subst hc; exact plain_dg hn h
    · intro c hc
      rcases List.mem_append.1 hc with hc | hc
      · exact dgs_plain k _ (Int.tdiv_nonneg hn (by omega)) c hc
      · simp only [List.mem_singleton] at hc
        subst hc
        exact plain_dg (Int.tmod_nonneg _ hn) (Int.tmod_lt_of_pos _ (by omega))
theorem dg_plain (n : Int) : ∀ c ∈ dg n, plainB c = true := by
  unfold dg
  split
  · intro c hc
    rcases List.mem_cons.1 hc with rfl | hc
    · decide
    · exact dgs_plain 19 _ (by omega) c hc
  · exact dgs_plain 19 _ (by omega)

mutual
theorem Ins.pj : ∀ j : J, Ins (jdep j) (pj j)
  | .mk k n t ks its => by
    rw [Proofs.YtjgancippgpdhaaGreatDoor.pj, jdep]
    by_cases e0 : k = 0
    · subst e0; simp; exact Ins.plain _ (by decide)
    by_cases e1 : k = 1
    · subst e1; simp
      have hb : n.toNat = 0 ∨ n.toNat = 1 ∨ 2 ≤ n.toNat := by omega
      rcases hb with e | e | e
      · rw [e]; exact Ins.plain _ (by decide)
      · rw [e]; exact Ins.plain _ (by decide)
      · rw [List.getElem?_eq_none (by simpa using e)]; exact Ins.nil 0
    by_cases e2 : k = 2
    · subst e2; simp; exact Ins.plain _ (dg_plain n)
    by_cases e3 : k = 3
    · subst e3; simp; exact Ins.quo t
    simp only [e0, e1, e2, e3, or_self, if_false]
    have := Ins.pjs (k == 5) true ks its
    by_cases e : k = 5
    · subst e; simp only [if_true]; exact this.box (.inl rfl) (.inl rfl)
    · simp only [e, if_false]; exact this.box (.inr rfl) (.inr rfl)
theorem Ins.pjs : ∀ (o a : Bool) (ks : List (List UInt8)) (its : List J), Ins (jdeps its) (pjs o a ks its)
  | _, _, _, [] => by rw [Proofs.YtjgancippgpdhaaGreatDoor.pjs]; exact Ins.nil _
  | o, a, ks, j :: js => by
    rw [Proofs.YtjgancippgpdhaaGreatDoor.pjs, jdeps]
    refine Ins.app (Ins.app (Ins.app ?_ ?_) ((Ins.pj j).more (by omega))) ((Ins.pjs o false ks.tail js).more (by omega))
    · split
      · exact Ins.nil _
      · exact (Ins.plain [44] (by decide)).more (by omega)
    · split
      · exact ((Ins.quo _).app (Ins.plain [58] (by decide))).more (by omega)
      · exact Ins.nil _
end

end Go.Proofs.YtjgancippgpdhaaGreatDoor

namespace Go.Proofs.YtjgancippgpdhaaGreatDoor
open Go.RowKit
set_option maxRecDepth 100000

/-- A value that can be drawn, d levels deep. -/
inductive Dr : Nat → J → Prop where
  | null (d : Nat) : Dr d .zero
  | bool (d : Nat) (n : Int) (h : 0 ≤ n ∧ n < 2) : Dr d (.mk 1 n [] [] [])
  | num (d : Nat) (n : Int) (h : -1000000000 ≤ n ∧ n ≤ 1000000000) : Dr d (.mk 2 n [] [] [])
  | text (d : Nat) (t : List UInt8) (h : t ∈ jsTexts) : Dr d (.mk 3 0 t [] [])
  | list (d : Nat) (L : List J) (h : ∀ x ∈ L, Dr d x) (hl : L.length ≤ 3) : Dr (d + 1) (.mk 4 0 [] [] L)
  | obj (d : Nat) (ks : List (List UInt8)) (L : List J) (h : ∀ x ∈ L, Dr d x) (hk : ks.Sublist objKeys) (hl : ks.length = L.length) : Dr (d + 1) (.mk 5 0 [] ks L)

def DrawDr (f : Src → J × Src) (q d : Nat) : Prop := ∀ x c, x.OK (c + q) → Dr d (f x).1

theorem drawList_dr {f : Src → J × Src} {dd : Int} {q d : Nat} (hf : Draw f dd q) (hp : DrawDr f q d) : ∀ (i : Nat) (x : Src) (L : List J) (c : Nat), x.OK (c + i * q) → (∀ y ∈ L, Dr d y) → (∀ y ∈ (drawList f i x L).1, Dr d y) ∧ (drawList f i x L).1.length = L.length + i
  | 0, x, L, c, h, hL => ⟨hL, by simp [drawList]⟩
  | i + 1, x, L, c, h, hL => by
    have hc : x.OK ((c + i * q) + q) := by
      refine h.less ?_
      rw [Nat.add_mul, Nat.one_mul]; omega
    unfold drawList
    have := drawList_dr hf hp i (f x).2 (L ++ [(f x).1]) c (hf.cost x _ hc) (by
      intro y hy
      rcases List.mem_append.1 hy with hy | hy
      · exact hL y hy
      · rw [List.mem_singleton.1 hy]; exact hp x _ hc)
    refine ⟨this.1, ?_⟩
    rw [this.2]; simp; omega
theorem drawObj_dr {f : Src → J × Src} {dd : Int} {q d : Nat} (hf : Draw f dd q) (hp : DrawDr f q d) : ∀ (t : List (List UInt8)) (x : Src) (ks : List (List UInt8)) (L : List J) (c : Nat), x.OK (c + t.length * (q + 3)) → (∀ y ∈ L, Dr d y) → ks.length = L.length →
    (∀ y ∈ (drawObj f t x ks L).2.1, Dr d y) ∧ (drawObj f t x ks L).1.length = (drawObj f t x ks L).2.1.length ∧ ∃ ks', (drawObj f t x ks L).1 = ks ++ ks' ∧ ks'.Sublist t
  | [], x, ks, L, c, h, hL, hk => ⟨hL, hk, [], by simp [drawObj], by simp⟩
  | k :: t, x, ks, L, c, h, hL, hk => by
    have hc : x.OK ((c + t.length * (q + 3) + q) + 3) := by
      refine h.less ?_
      rw [List.length_cons, Nat.add_mul, Nat.one_mul]; omega
    have hx := chanceF_ok (n := 2) hc (by omega)
    unfold drawObj
    split
    · have := drawObj_dr hf hp t (f (chanceF x 2).2).2 (ks ++ [k]) (L ++ [(f (chanceF x 2).2).1]) c (hf.cost _ _ hx) (by
        intro y hy
        rcases List.mem_append.1 hy with hy | hy
        · exact hL y hy
        · rw [List.mem_singleton.1 hy]; exact hp _ _ hx) (by simp [hk])
      obtain ⟨h1, h2, ks', h3, h4⟩ := this
      exact ⟨h1, h2, k :: ks', by rw [h3]; simp, h4.cons_cons k⟩
    · obtain ⟨h1, h2, ks', h3, h4⟩ := drawObj_dr hf hp t (chanceF x 2).2 ks L c (hx.less (by omega)) hL hk
      exact ⟨h1, h2, ks', h3, h4.cons k⟩

theorem jsonK_dr {f : Src → J × Src} {dd : Int} {q d : Nat} {k : Int} (hf : 4 ≤ k → Draw f dd q ∧ DrawDr f q d) {x : Src} {c : Nat} (h : x.OK (c + (4 * q + 15))) (hk : 0 ≤ k ∧ k < 6) : Dr (d + 1) (jsonK f k x).1 ∧ (k < 4 → Dr 0 (jsonK f k x).1) := by
  unfold jsonK
  split
  · exact ⟨.null _, fun _ => .null _⟩
  split
  · have h1 := nextF_ok (c := c) (n := 2) (h.less (by omega)) (by omega)
    exact ⟨.bool _ _ h1.2, fun _ => .bool _ _ h1.2⟩
  split
  · have h1 := nextF_ok (c := c + 3) (n := 20) (h.less (by omega)) (by omega)
    have h2 := nextF_ok (c := c) (n := 6) h1.1 (by omega)
    have h5 : 0 ≤ (nextF (nextF x 20).2 6).1.tdiv 5 := Int.tdiv_nonneg h2.2.1 (by omega)
    have h6 : (nextF (nextF x 20).2 6).1.tdiv 5 < 2 := by rw [Int.tdiv_eq_ediv_of_nonneg h2.2.1]; omega
    have : -1000000000 ≤ ([(nextF x 20).1 - 9, 1000000000].getD ((nextF (nextF x 20).2 6).1.tdiv 5).toNat 0) ∧ ([(nextF x 20).1 - 9, 1000000000].getD ((nextF (nextF x 20).2 6).1.tdiv 5).toNat 0) ≤ 1000000000 := by
      generalize (nextF (nextF x 20).2 6).1.tdiv 5 = z at h5 h6
      have : z = 0 ∨ z = 1 := by omega
      rcases this with rfl | rfl
      · show -1000000000 ≤ (nextF x 20).1 - 9 ∧ (nextF x 20).1 - 9 ≤ 1000000000
        omega
      · show -1000000000 ≤ (1000000000 : Int) ∧ (1000000000 : Int) ≤ 1000000000
        omega
    exact ⟨.num _ _ this, fun _ => .num _ _ this⟩
  split
  · have h1 := pickF_ok (c := c) (L := jsTexts) (h.less (by omega)) (by simp [jsTexts])
    exact ⟨.text _ _ h1.2, fun _ => .text _ _ h1.2⟩
  split
  · obtain ⟨hf1, hf2⟩ := hf (by omega)
    have h1 := nextF_ok (c := c + 4 * q) (n := 4) (h.less (by omega)) (by omega)
    have h3 : (nextF x 4).1.toNat ≤ 3 := by omega
    have h4 := Nat.mul_le_mul_right q h3
    have := drawList_dr hf1 hf2 (nextF x 4).1.toNat (nextF x 4).2 [] c (h1.1.less (by omega)) (fun y hy => nomatch hy)
    exact ⟨.list _ _ this.1 (by rw [this.2]; simpa using h3), fun h => by omega⟩
  · obtain ⟨hf1, hf2⟩ := hf (by omega)
    obtain ⟨h1, h2, ks', h3, h4⟩ := drawObj_dr hf1 hf2 objKeys x [] [] c (h.less (by simp only [objKeys, List.length_cons, List.length_nil]; omega)) (fun y hy => nomatch hy) rfl
    rw [List.nil_append] at h3
    exact ⟨.obj _ _ _ h1 (by rw [h3]; exact h4) h2, fun h => by omega⟩

theorem Dr.up {d : Nat} {j : J} (h : Dr 0 j) : Dr d j := by
  cases h with
  | null => exact .null _
  | bool _ n h => exact .bool _ n h
  | num _ n h => exact .num _ n h
  | text _ t h => exact .text _ t h

theorem json_dr : ∀ (d : Nat), d ≤ 6 → DrawDr (jsonF d) (qF d) d
  | 0, _ => by
    intro x c h
    have h1 := nextF_ok (c := c + 18) (n := 6) h (by omega)
    have h2 := nextF_ok (c := c + 15) (n := 4) h1.1 (by omega)
    exact (jsonK_dr (q := 0) (d := 0) (dd := 0) (fun h => by omega) h2.1 (by omega)).2 (by omega)
  | d + 1, hd => by
    intro x c h
    simp only [qF] at h
    have h1 := nextF_ok (c := c + (4 * qF d + 15)) (n := 6) (h.less (by omega)) (by omega)
    exact (jsonK_dr (fun _ => ⟨json_draw d (by omega), json_dr d (by omega)⟩) h1.1 h1.2).1

/-- How deep it is. -/
theorem jdeps_le {L : List J} {d : Nat} (h : ∀ x ∈ L, jdep x ≤ d) : jdeps L ≤ d := by
  induction L with
  | nil => simp [jdeps]
  | cons x L ih =>
    have h1 := h x (by simp)
    have h2 := ih fun y hy => h y (by simp [hy])
    rw [jdeps]; omega
theorem Dr.dep {d : Nat} {j : J} (h : Dr d j) : jdep j ≤ d := by
  induction h with
  | null d => simp [J.zero, jdep]
  | bool d n h => simp [jdep]
  | num d n h => simp [jdep]
  | text d t h => simp [jdep]
  | list d L h hl ih => rw [jdep]; simp; exact jdeps_le ih
  | obj d ks L h hk hl ih => rw [jdep]; simp; exact jdeps_le ih

mutual
/-- How many values it has. -/
def jn : J → Nat
  | .mk _ _ _ _ its => 1 + jns its
def jns : List J → Nat
  | [] => 0
  | j :: js => jn j + jns js
end
def nF : Nat → Nat
  | 0 => 1
  | d + 1 => 1 + 4 * nF d
theorem jns_le {L : List J} {b : Nat} (h : ∀ x ∈ L, jn x ≤ b) : jns L ≤ L.length * b := by
  induction L with
  | nil => simp [jns]
  | cons x L ih =>
    have h1 := h x (by simp)
    have h2 := ih fun y hy => h y (by simp [hy])
    rw [jns, List.length_cons, Nat.add_mul, Nat.one_mul]; omega
theorem nF_ge : ∀ d, 1 ≤ nF d
  | 0 => Nat.le_refl _
  | d + 1 => by unfold nF; omega
theorem Dr.nodes {d : Nat} {j : J} (h : Dr d j) : jn j ≤ nF d := by
  induction h with
  | null d => have := nF_ge d; simp [J.zero, jn, jns]; omega
  | bool d n h => have := nF_ge d; simp [jn, jns]; omega
  | num d n h => have := nF_ge d; simp [jn, jns]; omega
  | text d t h => have := nF_ge d; simp [jn, jns]; omega
  | list d L h hl ih =>
    have h1 := jns_le ih
    have h2 := Nat.mul_le_mul_right (nF d) (show L.length ≤ 4 by omega)
    rw [jn, nF]; omega
  | obj d ks L h hk hl ih =>
    have h1 := jns_le ih
    have h3 : L.length ≤ 4 := by rw [← hl]; exact hk.length_le
    have h2 := Nat.mul_le_mul_right (nF d) h3
    rw [jn, nF]; omega

end Go.Proofs.YtjgancippgpdhaaGreatDoor

namespace Go.Proofs.YtjgancippgpdhaaGreatDoor
open Go.RowKit
set_option maxRecDepth 100000

def plainT (t : List UInt8) : Bool := t.all (fun c => decide (32 ≤ c.toNat) && decide (c.toNat ≤ 126)) && decide (t.length ≤ 200)
def areK : List (List UInt8) → Bool
  | [] => true
  | [k] => plainT k
  | k :: k' :: t => plainT k && Op.bytesLess k k' && areK (k' :: t)
def partJ : J → Bool
  | .mk k n t ks its =>
    if k = 0 then decide (n = 0) && t.isEmpty && ks.isEmpty && its.isEmpty
    else if k = 1 then decide (0 ≤ n ∧ n ≤ 1) && t.isEmpty && ks.isEmpty && its.isEmpty
    else if k = 2 then decide (-1000000000 ≤ n ∧ n ≤ 1000000000) && t.isEmpty && ks.isEmpty && its.isEmpty
    else if k = 3 then decide (n = 0) && plainT t && ks.isEmpty && its.isEmpty
    else if k = 4 then decide (n = 0) && t.isEmpty && ks.isEmpty
    else if k = 5 then decide (n = 0) && t.isEmpty && ks.length == its.length && areK ks
    else false
mutual
/-- Is it right, so deep within others, and how much room is left? -/
def rightJ : J → Int → Int → Bool × Int
  | .mk k n t ks its, deep, room =>
    if room - 1 < 0 ∨ 12 ≤ deep ∨ partJ (.mk k n t ks its) = false then (false, room - 1)
    else rightJs its (deep + 1) (room - 1)
def rightJs : List J → Int → Int → Bool × Int
  | [], _, room => (true, room)
  | j :: js, deep, room => if (rightJ j deep room).1 = true then rightJs js deep (rightJ j deep room).2 else (false, (rightJ j deep room).2)
end

theorem objKeys_sub {ks : List (List UInt8)} (h : ks.Sublist objKeys) : areK ks = true := by
  unfold objKeys at h
  cases h <;> rename_i h <;> cases h <;> rename_i h <;> cases h <;> rename_i h <;> cases h <;> rename_i h <;> cases h <;> decide
theorem rightJs_ok {d : Nat} : ∀ (L : List J), (∀ x ∈ L, ∀ deep room : Int, 0 ≤ deep → deep + d < 12 → (jn x : Int) ≤ room → rightJ x deep room = (true, room - jn x)) → ∀ deep room : Int, 0 ≤ deep → deep + d < 12 → (jns L : Int) ≤ room → rightJs L deep room = (true, room - jns L)
  | [], h, deep, room, h1, h2, h3 => by simp [rightJs, jns]
  | x :: L, h, deep, room, h1, h2, h3 => by
    rw [jns] at h3
    have a := h x (by simp) deep room h1 h2 (by omega)
    rw [rightJs, a]
    simp only [if_true]
    rw [rightJs_ok L (fun y hy => h y (by simp [hy])) deep (room - jn x) h1 h2 (by omega), jns]
    congr 1; omega
theorem Dr.right {d : Nat} {j : J} (h : Dr d j) : ∀ deep room : Int, 0 ≤ deep → deep + d < 12 → (jn j : Int) ≤ room → rightJ j deep room = (true, room - jn j) := by
  have leaf : ∀ (k n : Int) (t : List UInt8), partJ (.mk k n t [] []) = true → ∀ deep room : Int, 0 ≤ deep → deep < 12 → (jn (.mk k n t [] []) : Int) ≤ room → rightJ (.mk k n t [] []) deep room = (true, room - jn (.mk k n t [] [])) := by
    intro k n t hp deep room h1 h2 h3
    simp only [jn, jns] at h3 ⊢
    rw [rightJ, if_neg (by rw [hp]; simp; omega), rightJs]
    simp
  have node : ∀ (d : Nat) (k n : Int) (t : List UInt8) (ks : List (List UInt8)) (L : List J), partJ (.mk k n t ks L) = true → (∀ x ∈ L, ∀ deep room : Int, 0 ≤ deep → deep + d < 12 → (jn x : Int) ≤ room → rightJ x deep room = (true, room - jn x)) → ∀ deep room : Int, 0 ≤ deep → deep + (d + 1 : Nat) < 12 → (jn (.mk k n t ks L) : Int) ≤ room → rightJ (.mk k n t ks L) deep room = (true, room - jn (.mk k n t ks L)) := by
    intro d k n t ks L hp hL deep room h1 h2 h3
    rw [jn] at h3
    rw [rightJ, if_neg (by rw [hp]; simp; omega), rightJs_ok L hL (deep + 1) (room - 1) (by omega) (by omega) (by omega), jn]
    congr 1; omega
  induction h with
  | null d => intro deep room h1 h2 h3; exact leaf 0 0 [] (by decide) deep room h1 (by omega) h3
  | bool d n h => intro deep room h1 h2 h3; exact leaf 1 n [] (by simp [partJ]; omega) deep room h1 (by omega) h3
  | num d n h => intro deep room h1 h2 h3; exact leaf 2 n [] (by simp [partJ]; omega) deep room h1 (by omega) h3
  | text d t h =>
    intro deep room h1 h2 h3
    have : ∀ t ∈ jsTexts, plainT t = true := by decide
    exact leaf 3 0 t (by simp [partJ, this t h]) deep room h1 (by omega) h3
  | list d L h hl ih => exact node d 4 0 [] [] L (by simp [partJ]) ih
  | obj d ks L h hk hl ih => exact node d 5 0 [] ks L (by simp [partJ, hl, objKeys_sub hk]) ih

/-- The list of one drawn value: right, short, one text. -/
theorem one_right {j : J} (h : Dr 3 j) : (rightJ (one j) 0 400).1 = true := by
  have h1 := h.nodes
  have h2 : nF 3 = 85 := by decide
  have hp : partJ (one j) = true := by simp [one, partJ]
  unfold one at hp ⊢
  rw [rightJ, if_neg (by rw [hp]; simp), rightJs, show (0 : Int) + 1 = 1 from rfl, show (400 : Int) - 1 = 399 from rfl, h.right 1 399 (by omega) (by omega) (by omega)]
  simp [rightJs]
theorem one_whole {j : J} (h : Dr 3 j) (hl : (pj (one j)).length ≤ 3000) (out : List (List UInt8)) : (pj (one j)).foldl Fr.sStep ⟨Fr.F.zero, out⟩ = ⟨Fr.F.zero, out ++ [pj (one j)]⟩ := by
  have e : pj (one j) = [91] ++ pjs false true [] [j] ++ [93] := by simp [one, pj]
  rw [e] at hl ⊢
  have hI := Ins.pjs false true [] [j]
  have hd : jdeps [j] ≤ 11 := by have := h.dep; simp [jdeps]; omega
  simp only [List.length_append, List.length_cons, List.length_nil] at hl
  exact whole (.inr rfl) (.inr rfl) hI hd (by omega) out

end Go.Proofs.YtjgancippgpdhaaGreatDoor

namespace Go.Proofs.YtjgancippgpdhaaGreatDoor
open Go.RowKit
set_option maxRecDepth 100000

abbrev fWithin : Nat := 92
abbrev fIsNumber : Nat := 93
abbrev fIsPlain : Nat := 94
abbrev fAreKeys : Nat := 95
abbrev fPartOK : Nat := 64

set_option maxRecDepth 100000 in
theorem withinT (n lo hi : Int) : fnT E0 0 fWithin [.int .i64 n, .int .i64 lo, .int .i64 hi] [] =
  bif decide (n ≥ lo) then T.done (Ret.mk (V.bool (decide (n ≤ hi))) [] []) else T.done (Ret.mk (V.bool false) [] []) := by kernel_rfl
def inB (n lo hi : Int) : Bool := decide (lo ≤ n) && decide (n ≤ hi)
theorem within_ok (n lo hi : Int) : FnOK Tryz.prog fWithin [.int .i64 n, .int .i64 lo, .int .i64 hi] [] ⟨.bool (inB n lo hi), [], []⟩ := by
  refine fnOK_TL (E := E0) follows named (withinT n lo hi) (by simp) ?_
  simp only [WP_cond, T.WP, decide_eq_true_eq, decide_eq_false_iff_not]
  unfold inB
  refine ⟨fun h => ⟨?_, rfl, by simp⟩, fun h => ⟨?_, rfl, by simp⟩⟩
  · simp [h]
  · simp [h]
noncomputable def resW : ResT := fun f vs hp => match vs, hp with
  | [.int _ n, .int _ lo, .int _ hi], [] => bif Nat.beq f fWithin then some ⟨inB n lo hi, fun y => ⟨.bool y, [], []⟩⟩ else none
  | _, _ => none
set_option maxRecDepth 100000 in
theorem isNumberT (n : Int) : fnT { P := Tryz.prog, vw := vwA, res := resW } 0 fIsNumber [.int .i64 n] [] =
  T.bind (inB n (-1000000000 : Int) (1000000000 : Int)) fun y0 =>
    T.need
      [FnOK (Env.P (Env.mk Tryz.prog vwA resW (fun _ _ => none) [] [] fun _ _ _ _ _ => none)) 92 [V.int IntKind.i64 n, V.int IntKind.i64 (-1000000000 : Int), V.int IntKind.i64 (1000000000 : Int)] []
          (Ret.mk (V.bool y0) [] [])]
      (T.done (Ret.mk (V.bool y0) [] [])) := (T.force_eq _).symm.trans (by kernel_rfl)
theorem isNumber_ok (n : Int) : FnOK Tryz.prog fIsNumber [.int .i64 n] [] ⟨.bool (inB n (-1000000000) 1000000000), [], []⟩ := by
  refine fnOK_TL (E := { P := Tryz.prog, vw := vwA, res := resW }) follows named (isNumberT n) (by simp) ?_
  simp only [T.WP, All, and_true]
  rintro y rfl
  exact ⟨within_ok _ _ _, ⟨rfl, rfl, by simp⟩⟩

def stPl (t : List UInt8) (i : Int) : St := ⟨mkTm 23 [(0, .str t), (5, .int .i64 t.length), (6, .int .i64 i)], [], []⟩
def nfPl : Ex → Kp := fun ex => match ex with
  | .normal => { keep := [0, 5, 6] }
  | .ret => { keep := [2] }
  | .exit _ => { keep := [0] }
set_option maxRecDepth 100000 in
theorem isPlain0 (t : List UInt8) (i : Int) : bodyT E0 0 nfPl (lp Tryz.prog fIsPlain 0) (stPl t i) =
  bif decide (i < (↑(List.length t) : Int)) then
    T.need [(0 : Int) ≤ i ∧ i < (↑(List.length t) : Int)]
      (bif decide ((↑(UInt8.toNat (List.getD t (Int.toNat i) (0 : UInt8))) : Int) < (32 : Int)) then T.done (Ex.ret, St.mk (mkTm 23 [(2, V.bool false)]) [] [])
      else
        T.need [(0 : Int) ≤ i ∧ i < (↑(List.length t) : Int)]
          (bif decide ((↑(UInt8.toNat (List.getD t (Int.toNat i) (0 : UInt8))) : Int) > (126 : Int)) then T.done (Ex.ret, St.mk (mkTm 23 [(2, V.bool false)]) [] [])
          else T.done (Ex.normal, St.mk (mkTm 23 [(0, V.str t), (5, V.int IntKind.i64 (↑(List.length t) : Int)), (6, V.int IntKind.i64 (IntKind.wrap IntKind.i64 (i + (1 : Int))))]) [] [])))
  else T.done (Ex.exit 0, St.mk (mkTm 23 [(0, V.str t)]) [] []) := by kernel_rfl
def plainC (c : UInt8) : Bool := decide (32 ≤ c.toNat) && decide (c.toNat ≤ 126)
theorem plain_loop (t : List UInt8) (ht : t.length ≤ 4294967296) :
    (t.all plainC = true → LoopTo Tryz.prog 0 (lp Tryz.prog fIsPlain 0) (stPl t 0) (.exit 0) ⟨mkTm 23 [(0, .str t)], [], []⟩) ∧
    (t.all plainC = false → LoopTo Tryz.prog 0 (lp Tryz.prog fIsPlain 0) (stPl t 0) .ret ⟨mkTm 23 [(2, .bool false)], [], []⟩) := by
  rw [← allN_list plainC 0 t]
  refine scanT (E := E0) (nf := nfPl) (st := fun i => stPl t (i : Nat)) (n := t.length) _ follows named (by simp) (by simp) (fun i => isPlain0 t (i : Nat)) (fun i hi => ?_) ?_ t.length 0 (by simp)
  · have hc := (t.getD i 0).toNat_lt
    simp only [WP_cond, T.WP, All, decide_eq_true_eq, decide_eq_false_iff_not, and_true, Int.toNat_natCast, wrap_succ (show i < 9223372036854775807 by omega)]
    cases hg : plainC (t.getD i 0) <;> simp only [plainC, Bool.and_eq_true, Bool.and_eq_false_iff, decide_eq_true_eq, decide_eq_false_iff_not] at hg
    all_goals ((repeat' with_reducible first | intro _ | apply And.intro) <;> first | omega | rfl | (exfalso; omega) | (simp; done))
  · simp only [WP_cond, T.WP, All, decide_eq_true_eq, decide_eq_false_iff_not, and_true]
    ((repeat' with_reducible first | intro _ | apply And.intro) <;> first | omega | rfl | (exfalso; omega) | (simp; done))
noncomputable def lsPl : Nat → St → Option LRes := fun id s => match id, s.tm.get 0 with
  | 0, .str t => some ⟨t.all plainC, fun y => .two { keep := [0, 5, 6] } (stPl t 0) y (.exit 0) ⟨mkTm 23 [(0, .str t)], [], []⟩ .ret ⟨mkTm 23 [(2, .bool false)], [], []⟩⟩
  | _, _ => none
set_option maxRecDepth 100000 in
theorem isPlainT (t : List UInt8) : fnT { P := Tryz.prog, vw := vwA, res := res0, ls := lsPl } 0 fIsPlain [.str t] [] =
  T.bind (List.all t plainC) fun y0 =>
    T.need
      [St.mk (mkTm 23 [(0, V.str t), (5, V.int IntKind.i64 (↑(List.length t) : Int)), (6, V.int IntKind.i64 (0 : Int))]) [] [] =
          St.mk (mkTm 23 [(0, V.str t), (5, V.int IntKind.i64 (↑(List.length t) : Int)), (6, V.int IntKind.i64 (0 : Int))]) [] []]
      (bif y0 then
        T.need
          [SoundC (Env.P (Env.mk Tryz.prog vwA res0 lsPl [] [] fun _ _ _ _ _ => none)) 0 (blk Tryz.prog fIsPlain 0)
              (St.mk (mkTm 23 [(0, V.str t), (5, V.int IntKind.i64 (↑(List.length t) : Int)), (6, V.int IntKind.i64 (0 : Int))]) [] []) (Ex.exit 0)
              (St.mk (mkTm 23 [(0, V.str t)]) [] [])]
          (T.done (Ret.mk (V.bool (decide ((↑(List.length t) : Int) ≤ (200 : Int)))) [] []))
      else
        T.need
          [SoundC (Env.P (Env.mk Tryz.prog vwA res0 lsPl [] [] fun _ _ _ _ _ => none)) 0 (blk Tryz.prog fIsPlain 0)
              (St.mk (mkTm 23 [(0, V.str t), (5, V.int IntKind.i64 (↑(List.length t) : Int)), (6, V.int IntKind.i64 (0 : Int))]) [] []) Ex.ret
              (St.mk (mkTm 23 [(2, V.bool false)]) [] [])]
          (T.done (Ret.mk (V.bool false) [] []))) := (T.force_eq _).symm.trans (by kernel_rfl)
theorem isPlain_ok (t : List UInt8) (ht : t.length ≤ 4294967296) : FnOK Tryz.prog fIsPlain [.str t] [] ⟨.bool (plainT t), [], []⟩ := by
  refine fnOK_TL (E := { P := Tryz.prog, vw := vwA, res := res0, ls := lsPl }) follows named (isPlainT t) (by simp) ?_
  simp only [WP_cond, T.WP, All, and_true]
  rintro y rfl
  refine ⟨trivial, fun h => ⟨.loopTo ((plain_loop t ht).1 h), ?_, rfl, by simp⟩, fun h => ⟨.loopTo ((plain_loop t ht).2 h), ?_, rfl, by simp⟩⟩
  · exact congrArg V.bool (show _ = (t.all plainC && decide (t.length ≤ 200)) by rw [h, Bool.true_and]; congr 1; exact propext (by omega))
  · exact congrArg V.bool (show _ = (t.all plainC && decide (t.length ≤ 200)) by rw [h]; rfl)
def stKy (ks : List (List UInt8)) (i : Int) : St := ⟨mkTm 29 [(0, sls encStr ks), (5, sls encStr ks), (6, .int .i64 ks.length), (7, .int .i64 i)], [], []⟩
def nfKy : Ex → Kp := fun ex => match ex with
  | .normal => { keep := [0, 5, 6, 7] }
  | .ret => { keep := [2] }
  | .exit _ => { keep := [] }
noncomputable def resPl : ResT := fun f vs hp => match vs, hp with
  | [.str t], [] => bif Nat.beq f fIsPlain then some ⟨plainT t, fun y => ⟨.bool y, [], []⟩⟩ else none
  | _, _ => none
set_option maxRecDepth 100000 in
theorem areKeys0 (ks : List (List UInt8)) (i : Int) : bodyT { P := Tryz.prog, vw := vwA, res := resPl } 0 nfKy (lp Tryz.prog fAreKeys 0) (stKy ks i) =
  bif decide (i < (↑(List.length ks) : Int)) then
    T.need [(0 : Int) ≤ i ∧ i < (↑(List.length ks) : Int), List.take 1 (List.drop (Int.toNat i * 1) (encs encStr ks)) = [V.str (List.getD (decL encStr (encs encStr ks)) (Int.toNat i) [])]]
      (T.bind (plainT (List.getD (decL encStr (encs encStr ks)) (Int.toNat i) [])) fun y0 =>
        T.need
          [FnOK (Env.P (Env.mk Tryz.prog vwA resPl (fun _ _ => none) [] [] fun _ _ _ _ _ => none)) 94 [V.str (List.getD (decL encStr (encs encStr ks)) (Int.toNat i) [])] [] (Ret.mk (V.bool y0) [] [])]
          (bif !y0 then T.done (Ex.ret, St.mk (mkTm 29 [(2, V.bool false)]) [] [])
          else
            bif decide (i > (0 : Int)) then
              T.need
                [(0 : Int) ≤ IntKind.wrap IntKind.i64 (i - (1 : Int)) ∧ IntKind.wrap IntKind.i64 (i - (1 : Int)) < (↑(List.length ks) : Int),
                  List.take 1 (List.drop (Int.toNat (IntKind.wrap IntKind.i64 (i - (1 : Int))) * 1) (encs encStr ks)) =
                    [V.str (List.getD (decL encStr (encs encStr ks)) (Int.toNat (IntKind.wrap IntKind.i64 (i - (1 : Int)))) [])]]
                (bif !Op.bytesLess (List.getD (decL encStr (encs encStr ks)) (Int.toNat (IntKind.wrap IntKind.i64 (i - (1 : Int)))) []) (List.getD (decL encStr (encs encStr ks)) (Int.toNat i) []) then
                  T.done (Ex.ret, St.mk (mkTm 29 [(2, V.bool false)]) [] [])
                else
                  T.done
                    (Ex.normal,
                      St.mk
                        (mkTm 29
                          [(0, V.dsl (List.length ks) false (encs encStr ks)), (5, V.dsl (List.length ks) false (encs encStr ks)), (6, V.int IntKind.i64 (↑(List.length ks) : Int)),
                            (7, V.int IntKind.i64 (IntKind.wrap IntKind.i64 (i + (1 : Int))))])
                        [] []))
            else
              T.done
                (Ex.normal,
                  St.mk
                    (mkTm 29
                      [(0, V.dsl (List.length ks) false (encs encStr ks)), (5, V.dsl (List.length ks) false (encs encStr ks)), (6, V.int IntKind.i64 (↑(List.length ks) : Int)),
                        (7, V.int IntKind.i64 (IntKind.wrap IntKind.i64 (i + (1 : Int))))])
                    [] [])))
  else T.done (Ex.exit 0, St.mk (mkTm 29 []) [] []) := by kernel_rfl
/-- Is the i-th key right, and does it rise? -/
def keyG (ks : List (List UInt8)) (i : Nat) : Bool := plainT (ks.getD i []) && (i == 0 || Op.bytesLess (ks.getD (i - 1) []) (ks.getD i []))
theorem areKeys_loop (ks : List (List UInt8)) (hk : ks.length ≤ 4294967296) (hs : ∀ s ∈ ks, s.length ≤ 4294967296) :
    (allN (keyG ks) ks.length 0 = true → LoopTo Tryz.prog 0 (lp Tryz.prog fAreKeys 0) (stKy ks 0) (.exit 0) ⟨mkTm 29 [], [], []⟩) ∧
    (allN (keyG ks) ks.length 0 = false → LoopTo Tryz.prog 0 (lp Tryz.prog fAreKeys 0) (stKy ks 0) .ret ⟨mkTm 29 [(2, .bool false)], [], []⟩) := by
  refine scanT (E := { P := Tryz.prog, vw := vwA, res := resPl }) (nf := nfKy) (st := fun i => stKy ks (i : Nat)) (n := ks.length) _ follows named (by simp) (by simp) (fun i => areKeys0 ks (i : Nat)) (fun i hi => ?_) ?_ ks.length 0 (by simp)
  · simp only [WP_cond, T.WP, All, decide_eq_true_eq, decide_eq_false_iff_not, and_true, Int.toNat_natCast, layStr.decL, wrap_succ (show i < 9223372036854775807 by omega)]
    have hat := layStr.at ks [] i 1 hi rfl
    have hl := hs (ks.getD i []) (by rw [List.getD_eq_getElem?_getD, List.getElem?_eq_getElem hi]; exact List.getElem_mem _)
    refine ⟨fun _ => ⟨⟨by omega, hat⟩, ?_⟩, fun h => by omega⟩
    rintro y rfl
    refine ⟨isPlain_ok _ hl, fun h => ?_, fun h => ⟨fun h0 => ?_, fun h0 => ?_⟩⟩
    · have : keyG ks i = false := by unfold keyG; rw [show plainT (ks.getD i []) = false by simpa using h]; rfl
      rw [this]; rfl
    · have e : IntKind.i64.wrap ((i : Int) - 1) = ((i - 1 : Nat) : Int) := by rw [wrap_id (by omega)]; omega
      have hat2 := layStr.at ks [] (i - 1) 1 (by omega) rfl
      rw [e, Int.toNat_natCast]
      refine ⟨⟨by omega, hat2⟩, fun h1 => ?_, fun h1 => ?_⟩
      · have : keyG ks i = false := by
          unfold keyG
          rw [show Op.bytesLess (ks.getD (i - 1) []) (ks.getD i []) = false by simpa using h1, show (i == 0) = false by simp; omega]; simp
        rw [this]; rfl
      · have : keyG ks i = true := by
          unfold keyG
          rw [show Op.bytesLess (ks.getD (i - 1) []) (ks.getD i []) = true by simpa using h1, show plainT (ks.getD i []) = true by simpa using h]; simp
        rw [this]; rfl
    · obtain rfl : i = 0 := by omega
      have : keyG ks 0 = true := by
        unfold keyG
        rw [show plainT (ks.getD 0 []) = true by simpa using h]; simp
      rw [this]; rfl
  · simp only [WP_cond, T.WP, All, decide_eq_true_eq, decide_eq_false_iff_not, and_true]
    ((repeat' with_reducible first | intro _ | apply And.intro) <;> first | omega | rfl | (exfalso; omega) | (simp; done))
theorem areK_allN : ∀ ks : List (List UInt8), areK ks = allN (keyG ks) ks.length 0 := by
  have key : ∀ (ks : List (List UInt8)), areK ks = true ↔ ∀ j, j < ks.length → keyG ks j = true := by
    intro ks
    induction ks with
    | nil => simp [areK]
    | cons k t ih =>
      cases t with
      | nil =>
        simp only [areK, List.length_singleton]
        constructor
        · intro h j hj
          obtain rfl : j = 0 := by omega
          simp [keyG, h]
        · intro h; have := h 0 (by omega); simpa [keyG] using this
      | cons k' t =>
        rw [areK, Bool.and_eq_true, Bool.and_eq_true, ih]
        constructor
        · rintro ⟨⟨h1, h2⟩, h3⟩ j hj
          rcases j with _ | j
          · simp [keyG, h1]
          · have := h3 j (by simpa using hj)
            rcases j with _ | j
            · simp only [keyG, List.getD_cons_zero, List.getD_cons_succ, Nat.add_sub_cancel, Bool.and_eq_true] at this ⊢
              exact ⟨this.1, by simp [h2]⟩
            · simpa [keyG] using this
        · intro h
          have h0 := h 0 (by simp)
          have h1 := h 1 (by simp)
          simp only [keyG, List.getD_cons_zero, List.getD_cons_succ, Bool.and_eq_true] at h0 h1
          refine ⟨⟨h0.1, by simpa using h1.2⟩, fun j hj => ?_⟩
          have := h (j + 1) (by simpa using hj)
          rcases j with _ | j
          · simp only [keyG, List.getD_cons_zero, List.getD_cons_succ, Bool.and_eq_true] at this ⊢
            exact ⟨this.1, by simp⟩
          · simpa [keyG] using this
  intro ks
  rw [Bool.eq_iff_iff, key, allN_iff]
  exact ⟨fun h j _ hj => h j (by omega), fun h j hj => h j (by omega) (by omega)⟩
noncomputable def lsKy : Nat → St → Option LRes := fun id s => match id, s.tm.get 0 with
  | 0, .dsl _ _ cs => some ⟨areK (decL encStr cs), fun y => .two { keep := [0, 5, 6, 7] } (stKy (decL encStr cs) 0) y (.exit 0) ⟨mkTm 29 [], [], []⟩ .ret ⟨mkTm 29 [(2, .bool false)], [], []⟩⟩
  | _, _ => none
set_option maxRecDepth 100000 in
theorem areKeysT (ks : List (List UInt8)) : fnT { P := Tryz.prog, vw := vwA, res := res0, ls := lsKy } 0 fAreKeys [sls encStr ks] [] =
  T.bind (areK (decL encStr (encs encStr ks))) fun y0 =>
    T.need
      [St.mk
            (mkTm 29
              [(0, V.dsl (List.length ks) false (encs encStr ks)), (5, V.dsl (List.length ks) false (encs encStr ks)), (6, V.int IntKind.i64 (↑(List.length ks) : Int)),
                (7, V.int IntKind.i64 (0 : Int))])
            [] [] =
          St.mk
            (mkTm 29
              [(0, V.dsl (List.length (decL encStr (encs encStr ks))) false (encs encStr (decL encStr (encs encStr ks)))),
                (5, V.dsl (List.length (decL encStr (encs encStr ks))) false (encs encStr (decL encStr (encs encStr ks)))), (6, V.int IntKind.i64 (↑(List.length (decL encStr (encs encStr ks))) : Int)),
                (7, V.int IntKind.i64 (0 : Int))])
            [] []]
      (bif y0 then
        T.need
          [SoundC (Env.P (Env.mk Tryz.prog vwA res0 lsKy [] [] fun _ _ _ _ _ => none)) 0 (blk Tryz.prog fAreKeys 0)
              (St.mk
                (mkTm 29
                  [(0, V.dsl (List.length (decL encStr (encs encStr ks))) false (encs encStr (decL encStr (encs encStr ks)))),
                    (5, V.dsl (List.length (decL encStr (encs encStr ks))) false (encs encStr (decL encStr (encs encStr ks)))), (6, V.int IntKind.i64 (↑(List.length (decL encStr (encs encStr ks))) : Int)),
                    (7, V.int IntKind.i64 (0 : Int))])
                [] [])
              (Ex.exit 0) (St.mk (mkTm 29 []) [] [])]
          (T.done (Ret.mk (V.bool true) [] []))
      else
        T.need
          [SoundC (Env.P (Env.mk Tryz.prog vwA res0 lsKy [] [] fun _ _ _ _ _ => none)) 0 (blk Tryz.prog fAreKeys 0)
              (St.mk
                (mkTm 29
                  [(0, V.dsl (List.length (decL encStr (encs encStr ks))) false (encs encStr (decL encStr (encs encStr ks)))),
                    (5, V.dsl (List.length (decL encStr (encs encStr ks))) false (encs encStr (decL encStr (encs encStr ks)))), (6, V.int IntKind.i64 (↑(List.length (decL encStr (encs encStr ks))) : Int)),
                    (7, V.int IntKind.i64 (0 : Int))])
                [] [])
              Ex.ret (St.mk (mkTm 29 [(2, V.bool false)]) [] [])]
          (T.done (Ret.mk (V.bool false) [] []))) := (T.force_eq _).symm.trans (by kernel_rfl)
theorem areKeys_ok (ks : List (List UInt8)) (hk : ks.length ≤ 4294967296) (hs : ∀ s ∈ ks, s.length ≤ 4294967296) : FnOK Tryz.prog fAreKeys [sls encStr ks] [] ⟨.bool (areK ks), [], []⟩ := by
  refine fnOK_TL (E := { P := Tryz.prog, vw := vwA, res := res0, ls := lsKy }) follows named (areKeysT ks) (by simp) ?_
  simp only [WP_cond, T.WP, All, and_true, layStr.decL]
  rintro y rfl
  have hl := areKeys_loop ks hk hs
  rw [← areK_allN] at hl
  exact ⟨trivial, fun h => ⟨.loopTo (hl.1 h), congrArg V.bool h.symm, rfl, by simp⟩, fun h => ⟨.loopTo (hl.2 h), congrArg V.bool h.symm, rfl, by simp⟩⟩
/-- The fields of a value, but for its items' own. -/
noncomputable def resPt : ResT := fun f vs hp => match vs, hp with
  | [.str t], [] => bif Nat.beq f fIsPlain then some ⟨plainT t, fun y => ⟨.bool y, [], []⟩⟩ else none
  | [.int _ n], [] => bif Nat.beq f fIsNumber then some ⟨inB n (-1000000000) 1000000000, fun y => ⟨.bool y, [], []⟩⟩ else none
  | [.int _ n, .int _ lo, .int _ hi], [] => bif Nat.beq f fWithin then some ⟨inB n lo hi, fun y => ⟨.bool y, [], []⟩⟩ else none
  | [.dsl _ _ cs], [] => bif Nat.beq f fAreKeys then some ⟨areK (decL encStr cs), fun y => ⟨.bool y, [], []⟩⟩ else none
  | _, _ => none
set_option maxRecDepth 100000 in
theorem partOKT (j : J) : fnT { P := Tryz.prog, vw := vwA, res := resPt } 0 fPartOK [.agg (vwJ j)] [] =
  bif J.kind j == (0 : Int) then
    bif J.n j == (0 : Int) then
      bif J.t j == [] then bif (↑(List.length (J.keys j)) : Int) == (0 : Int) then T.done (Ret.mk (V.bool ((↑(List.length (J.items j)) : Int) == (0 : Int))) [] []) else T.done (Ret.mk (V.bool false) [] [])
      else T.done (Ret.mk (V.bool false) [] [])
    else T.done (Ret.mk (V.bool false) [] [])
  else
    bif J.kind j == (1 : Int) then
      T.bind (inB (J.n j) (0 : Int) (1 : Int)) fun y0 =>
        T.need
          [FnOK (Env.P (Env.mk Tryz.prog vwA resPt (fun _ _ => none) [] [] fun _ _ _ _ _ => none)) 92 [V.int IntKind.i64 (J.n j), V.int IntKind.i64 (0 : Int), V.int IntKind.i64 (1 : Int)] []
              (Ret.mk (V.bool y0) [] [])]
          (bif y0 then
            bif J.t j == [] then bif (↑(List.length (J.keys j)) : Int) == (0 : Int) then T.done (Ret.mk (V.bool ((↑(List.length (J.items j)) : Int) == (0 : Int))) [] []) else T.done (Ret.mk (V.bool false) [] [])
            else T.done (Ret.mk (V.bool false) [] [])
          else T.done (Ret.mk (V.bool false) [] []))
    else
      bif J.kind j == (2 : Int) then
        T.bind (inB (J.n j) (-1000000000 : Int) (1000000000 : Int)) fun y1 =>
          T.need [FnOK (Env.P (Env.mk Tryz.prog vwA resPt (fun _ _ => none) [] [] fun _ _ _ _ _ => none)) 93 [V.int IntKind.i64 (J.n j)] [] (Ret.mk (V.bool y1) [] [])]
            (bif y1 then
              bif J.t j == [] then bif (↑(List.length (J.keys j)) : Int) == (0 : Int) then T.done (Ret.mk (V.bool ((↑(List.length (J.items j)) : Int) == (0 : Int))) [] []) else T.done (Ret.mk (V.bool false) [] [])
              else T.done (Ret.mk (V.bool false) [] [])
            else T.done (Ret.mk (V.bool false) [] []))
      else
        bif J.kind j == (3 : Int) then
          bif J.n j == (0 : Int) then
            T.bind (plainT (J.t j)) fun y2 =>
              T.need [FnOK (Env.P (Env.mk Tryz.prog vwA resPt (fun _ _ => none) [] [] fun _ _ _ _ _ => none)) 94 [V.str (J.t j)] [] (Ret.mk (V.bool y2) [] [])]
                (bif y2 then bif (↑(List.length (J.keys j)) : Int) == (0 : Int) then T.done (Ret.mk (V.bool ((↑(List.length (J.items j)) : Int) == (0 : Int))) [] []) else T.done (Ret.mk (V.bool false) [] [])
                else T.done (Ret.mk (V.bool false) [] []))
          else T.done (Ret.mk (V.bool false) [] [])
        else
          bif J.kind j == (4 : Int) then
            bif J.n j == (0 : Int) then bif J.t j == [] then T.done (Ret.mk (V.bool ((↑(List.length (J.keys j)) : Int) == (0 : Int))) [] []) else T.done (Ret.mk (V.bool false) [] [])
            else T.done (Ret.mk (V.bool false) [] [])
          else
            bif J.kind j == (5 : Int) then
              bif J.n j == (0 : Int) then
                bif J.t j == [] then
                  bif (↑(List.length (J.keys j)) : Int) == (↑(List.length (J.items j)) : Int) then
                    T.bind (areK (decL encStr (encs encStr (J.keys j)))) fun y3 =>
                      T.need
                        [FnOK (Env.P (Env.mk Tryz.prog vwA resPt (fun _ _ => none) [] [] fun _ _ _ _ _ => none)) 95 [V.dsl (List.length (J.keys j)) false (encs encStr (J.keys j))] []
                            (Ret.mk (V.bool y3) [] [])]
                        (T.done (Ret.mk (V.bool y3) [] []))
                  else T.done (Ret.mk (V.bool false) [] [])
                else T.done (Ret.mk (V.bool false) [] [])
              else T.done (Ret.mk (V.bool false) [] [])
            else T.done (Ret.mk (V.bool false) [] []) := by kernel_rfl
/-- What may be asked: not too long. -/
structure Mod (j : J) : Prop where
  t : j.t.length ≤ 4294967296
  kl : j.keys.length ≤ 4294967296
  ks : ∀ s ∈ j.keys, s.length ≤ 4294967296
theorem len0 {α : Type} (l : List α) : (((l.length : Nat) : Int) == 0) = l.isEmpty := by cases l <;> simp; omega
theorem partOK_ok (j : J) (h : Mod j) : FnOK Tryz.prog fPartOK [.agg (vwJ j)] [] ⟨.bool (partJ j), [], []⟩ := by
  refine fnOK_TL (E := { P := Tryz.prog, vw := vwA, res := resPt }) follows named (partOKT j) (by simp) ?_
  simp only [WP_cond, T.WP, All, and_true, beq_iff_eq, beq_eq_false_iff_ne, ne_eq, layStr.decL]
  obtain ⟨k, n, t, ks, its⟩ := j
  obtain ⟨ht, hkl, hks⟩ := h
  simp only [J.kind, J.n, J.t, J.keys, J.items] at *
  repeat' with_reducible first | intro _ | apply And.intro
  all_goals try subst_vars
  all_goals first | exact within_ok _ _ _ | exact isNumber_ok _ | exact isPlain_ok _ ht | exact areKeys_ok _ hkl hks | (refine ⟨congrArg V.bool ?_, rfl, by simp⟩; simp_all [partJ, inB, len0, Int.ofNat_inj]; done) | (refine ⟨congrArg V.bool ?_, rfl, by simp⟩; simp_all [partJ, inB]; first | omega | (intro h1 h2; omega) | (intro h1 h2; exact absurd h1 (by omega)))
end Go.Proofs.YtjgancippgpdhaaGreatDoor

namespace Go.Proofs.YtjgancippgpdhaaGreatDoor
open Go.RowKit
set_option maxRecDepth 100000

abbrev fRightIn : Nat := 42
abbrev fRightIn1 : Nat := 66
abbrev fContJ : Nat := 65
abbrev fIdxJ : Nat := 96
abbrev fIJsonOK : Nat := 18
abbrev tInt : Nat := 3
abbrev tPInt : Nat := 60
def nB (n : Int) : Option Blk := some ([.int .i64 n], tInt)
def pB (b : Nat) : Option Blk := some ([.ptr b 0], tPInt)

/-- All within is not too long. -/
inductive MJ : J → Prop where
  | mk {j : J} (h : Mod j) (hl : j.items.length ≤ 4294967296) (hi : ∀ x ∈ j.items, MJ x) : MJ j
theorem MJ.mod {j : J} : MJ j → Mod j | .mk h _ _ => h
theorem MJ.len {j : J} : MJ j → j.items.length ≤ 4294967296 | .mk _ h _ => h
theorem MJ.item {j : J} : MJ j → ∀ x ∈ j.items, MJ x | .mk _ _ h => h

noncomputable def resR : ResT := fun f vs hp => match vs, hp with
  | [.agg [.int _ k, .int _ n, .str t, .dsl _ _ ks, .dsl _ _ its]], [] => bif Nat.beq f fPartOK then some ⟨partJ (jOf k n t ks its), fun y => ⟨.bool y, [], []⟩⟩ else none
  | [.agg [.int _ k, .int _ n, .str t, .dsl _ _ ks, .dsl _ _ its], .int _ d, .ptr 0 0], [some ([.int _ room], _)] => bif Nat.beq f fRightIn then some ⟨rightJ (jOf k n t ks its) d room, fun y => ⟨.bool y.1, [nB y.2], [0]⟩⟩ else none
  | [.agg [.int _ k, .int _ n, .str t, .dsl _ _ ks, .dsl _ _ its], .ptr 0 0, .ptr 1 0], [some ([.int _ d], _), _, some ([.int _ room], _)] => bif Nat.beq f fRightIn1 then some ⟨rightJ (jOf k n t ks its) (d + 1) room, fun y => ⟨.bool (!y.1), [nB d, pB 2, nB y.2], [2]⟩⟩ else none
  | [.dsl _ _ cs, .fn _ _], [some ([.int _ d], _), _, some ([.int _ room], _)] => bif Nat.beq f fContJ then some ⟨rightJs (decL encJ cs) (d + 1) room, fun y => ⟨.bool (!y.1), [nB d, pB 2, nB y.2], [2]⟩⟩ else none
  | _, _ => none
noncomputable def ER : Env := { P := Tryz.prog, vw := vwA, res := resR }
--FOLD nB pB
set_option maxRecDepth 100000 in
theorem rightIn1T (j : J) (d room : Int) : fnT ER 0 fRightIn1 [.agg (vwJ j), .ptr 0 0, .ptr 1 0] [nB d, pB 2, nB room] =
  T.bind (rightJ (jOf (J.kind j) (J.n j) (J.t j) (encs encStr (J.keys j)) (encs encJ (J.items j))) (IntKind.wrap IntKind.i64 (d + (1 : Int))) room) fun y0 =>
    T.need
      [FnOK (Env.P ER) 42
          [V.agg [V.int IntKind.i64 (J.kind j), V.int IntKind.i64 (J.n j), V.str (J.t j), V.dsl (List.length (J.keys j)) false (encs encStr (J.keys j)), V.dsl (List.length (J.items j)) false (encs encJ (J.items j))],
            V.int IntKind.i64 (IntKind.wrap IntKind.i64 (d + (1 : Int))), V.ptr 0 0]
          [nB room] (Ret.mk (V.bool (Prod.fst y0)) [nB (Prod.snd y0)] [0])]
      (T.done (Ret.mk (V.bool !Prod.fst y0) [nB d, pB 2, nB (Prod.snd y0)] [2])) := (T.force_eq _).symm.trans (by kernel_rfl)
set_option maxRecDepth 100000 in
theorem rightInT (j : J) (d room : Int) : fnT ER 0 fRightIn [.agg (vwJ j), .int .i64 d, .ptr 0 0] [nB room] =
  bif decide (IntKind.wrap IntKind.i64 (room - (1 : Int)) < (0 : Int)) then T.done (Ret.mk (V.bool false) [nB (IntKind.wrap IntKind.i64 (room - (1 : Int)))] [0])
  else
    bif decide (d ≥ (12 : Int)) then T.done (Ret.mk (V.bool false) [nB (IntKind.wrap IntKind.i64 (room - (1 : Int)))] [0])
    else
      T.bind (partJ (jOf (J.kind j) (J.n j) (J.t j) (encs encStr (J.keys j)) (encs encJ (J.items j)))) fun y0 =>
        T.need
          [FnOK (Env.P ER) 64
              [V.agg [V.int IntKind.i64 (J.kind j), V.int IntKind.i64 (J.n j), V.str (J.t j), V.dsl (List.length (J.keys j)) false (encs encStr (J.keys j)), V.dsl (List.length (J.items j)) false (encs encJ (J.items j))]]
              [] (Ret.mk (V.bool y0) [] [])]
          (bif !y0 then T.done (Ret.mk (V.bool false) [nB (IntKind.wrap IntKind.i64 (room - (1 : Int)))] [0])
          else
            T.bind (rightJs (decL encJ (encs encJ (J.items j))) (d + (1 : Int)) (IntKind.wrap IntKind.i64 (room - (1 : Int)))) fun y1 =>
              T.need
                [FnOK (Env.P ER) 65 [V.dsl (List.length (J.items j)) false (encs encJ (J.items j)), V.fn 66 [V.ptr 0 0, V.ptr 1 0]]
                    [nB d, pB 2, nB (IntKind.wrap IntKind.i64 (room - (1 : Int)))] (Ret.mk (V.bool !Prod.fst y1) [nB d, pB 2, nB (Prod.snd y1)] [2])]
                (T.done (Ret.mk (V.bool !!Prod.fst y1) [nB (Prod.snd y1)] [0]))) := by kernel_rfl
def stRi (L : List J) (d i room : Int) : St := ⟨mkTm 19 [(0, sls encJ L), (1, .fn fRightIn1 [.ptr 0 0, .ptr 1 0]), (7, .int .i64 L.length), (8, .int .i64 i)], [nB d, pB 2, nB room], [2]⟩
def nfRi : Ex → Kp := fun ex => match ex with
  | .normal => { keep := [0, 1, 7, 8], wr := [2] }
  | .ret => { keep := [4], wr := [2] }
  | .exit _ => { keep := [], wr := [2] }
set_option maxRecDepth 100000 in
theorem idx0 (L : List J) (d i room : Int) : bodyT ER 3 nfRi (lp Tryz.prog fIdxJ 0) (stRi L d i room) =
  bif decide (i < (↑(List.length L) : Int)) then
    T.need
      [(0 : Int) ≤ i ∧ i < (↑(List.length L) : Int),
        List.take 5 (List.drop (Int.toNat i * 5) (encs encJ L)) =
          [V.int IntKind.i64 (J.kind (List.getD (decL encJ (encs encJ L)) (Int.toNat i) (J.mk (0 : Int) (0 : Int) [] [] []))),
            V.int IntKind.i64 (J.n (List.getD (decL encJ (encs encJ L)) (Int.toNat i) (J.mk (0 : Int) (0 : Int) [] [] []))),
            V.str (J.t (List.getD (decL encJ (encs encJ L)) (Int.toNat i) (J.mk (0 : Int) (0 : Int) [] [] []))),
            V.dsl (List.length (J.keys (List.getD (decL encJ (encs encJ L)) (Int.toNat i) (J.mk (0 : Int) (0 : Int) [] [] [])))) false
              (encs encStr (J.keys (List.getD (decL encJ (encs encJ L)) (Int.toNat i) (J.mk (0 : Int) (0 : Int) [] [] [])))),
            V.dsl (List.length (J.items (List.getD (decL encJ (encs encJ L)) (Int.toNat i) (J.mk (0 : Int) (0 : Int) [] [] [])))) false
              (encs encJ (J.items (List.getD (decL encJ (encs encJ L)) (Int.toNat i) (J.mk (0 : Int) (0 : Int) [] [] []))))]]
      (T.bind
        (rightJ
          (jOf (J.kind (List.getD (decL encJ (encs encJ L)) (Int.toNat i) (J.mk (0 : Int) (0 : Int) [] [] []))) (J.n (List.getD (decL encJ (encs encJ L)) (Int.toNat i) (J.mk (0 : Int) (0 : Int) [] [] [])))
            (J.t (List.getD (decL encJ (encs encJ L)) (Int.toNat i) (J.mk (0 : Int) (0 : Int) [] [] []))) (encs encStr (J.keys (List.getD (decL encJ (encs encJ L)) (Int.toNat i) (J.mk (0 : Int) (0 : Int) [] [] []))))
            (encs encJ (J.items (List.getD (decL encJ (encs encJ L)) (Int.toNat i) (J.mk (0 : Int) (0 : Int) [] [] [])))))
          (d + (1 : Int)) room)
        fun y0 =>
        T.need
          [FnOK (Env.P ER) 66
              [V.agg
                  [V.int IntKind.i64 (J.kind (List.getD (decL encJ (encs encJ L)) (Int.toNat i) (J.mk (0 : Int) (0 : Int) [] [] []))),
                    V.int IntKind.i64 (J.n (List.getD (decL encJ (encs encJ L)) (Int.toNat i) (J.mk (0 : Int) (0 : Int) [] [] []))),
                    V.str (J.t (List.getD (decL encJ (encs encJ L)) (Int.toNat i) (J.mk (0 : Int) (0 : Int) [] [] []))),
                    V.dsl (List.length (J.keys (List.getD (decL encJ (encs encJ L)) (Int.toNat i) (J.mk (0 : Int) (0 : Int) [] [] [])))) false
                      (encs encStr (J.keys (List.getD (decL encJ (encs encJ L)) (Int.toNat i) (J.mk (0 : Int) (0 : Int) [] [] [])))),
                    V.dsl (List.length (J.items (List.getD (decL encJ (encs encJ L)) (Int.toNat i) (J.mk (0 : Int) (0 : Int) [] [] [])))) false
                      (encs encJ (J.items (List.getD (decL encJ (encs encJ L)) (Int.toNat i) (J.mk (0 : Int) (0 : Int) [] [] []))))],
                V.ptr 0 0, V.ptr 1 0]
              [nB d, pB 2, nB room] (Ret.mk (V.bool !Prod.fst y0) [nB d, pB 2, nB (Prod.snd y0)] [2])]
          (bif !Prod.fst y0 then T.done (Ex.ret, St.mk (mkTm 19 [(4, V.int IntKind.i64 i)]) [nB d, pB 2, nB (Prod.snd y0)] [2])
          else
            T.done
              (Ex.normal,
                St.mk
                  (mkTm 19
                    [(0, V.dsl (List.length L) false (encs encJ L)), (1, V.fn 66 [V.ptr 0 0, V.ptr 1 0]), (7, V.int IntKind.i64 (↑(List.length L) : Int)),
                      (8, V.int IntKind.i64 (IntKind.wrap IntKind.i64 (i + (1 : Int))))])
                  [nB d, pB 2, nB (Prod.snd y0)] [2])))
  else T.done (Ex.exit 0, St.mk (mkTm 19 []) [nB d, pB 2, nB room] [2]) := by kernel_rfl

mutual
theorem rightJ_room : ∀ (j : J) (d room : Int), 0 ≤ room → (rightJ j d room).1 = true → 0 ≤ (rightJ j d room).2 ∧ (rightJ j d room).2 ≤ room
  | .mk k n t ks its, d, room, h, ht => by
    rw [rightJ] at ht ⊢
    split at ht
    · cases ht
    · rename_i hc
      rw [if_neg hc]
      have := rightJs_room its (d + 1) (room - 1) (by omega) ht
      omega
theorem rightJs_room : ∀ (L : List J) (d room : Int), 0 ≤ room → (rightJs L d room).1 = true → 0 ≤ (rightJs L d room).2 ∧ (rightJs L d room).2 ≤ room
  | [], d, room, h, ht => by rw [rightJs]; exact ⟨h, Int.le_refl _⟩
  | j :: js, d, room, h, ht => by
    rw [rightJs] at ht ⊢
    split at ht
    · rename_i hc
      rw [if_pos hc]
      have h1 := rightJ_room j d room h hc
      have h2 := rightJs_room js d _ h1.1 ht
      omega
    · cases ht
end
theorem rightJ_eq (j : J) (d room : Int) : rightJ j d room = if room - 1 < 0 ∨ 12 ≤ d ∨ partJ j = false then (false, room - 1) else rightJs j.items (d + 1) (room - 1) := by
  obtain ⟨k, n, t, ks, its⟩ := j
  rw [rightJ]; rfl
/-- The loop of items: on to the next one, or the place of a wrong one. -/
def riStep (L : List J) (d : Int) (i : Nat) (room : Int) : Int ⊕ (Nat × Int) :=
  match rightJ (L.getD i J.zero) (d + 1) room with
  | (true, r) => .inl r
  | (false, r) => .inr (i, r)
theorem riStep_run (L : List J) (d : Int) : ∀ (k i : Nat) (room : Int), i + k = L.length →
    (runN (riStep L d) k i room).elim (fun r => rightJs (L.drop i) (d + 1) room = (true, r)) (fun b => rightJs (L.drop i) (d + 1) room = (false, b.2))
  | 0, i, room, h => by
    rw [runN, List.drop_of_length_le (by omega)]; rfl
  | k + 1, i, room, h => by
    have hd : L.drop i = L.getD i J.zero :: L.drop (i + 1) := by
      rw [List.drop_eq_getElem_cons (by omega), List.getD_eq_getElem?_getD, List.getElem?_eq_getElem (by omega)]; rfl
    rw [runN, hd]
    unfold riStep
    cases hr : rightJ (L.getD i J.zero) (d + 1) room with
    | mk b r =>
      cases b
      · simp only [Sum.elim_inr, rightJs, hr]; rfl
      · have ih := riStep_run L d k (i + 1) r (by omega)
        simp only [rightJs, hr, if_true]
        exact ih
/-- What is known of the function at a depth. -/
def RightOK (d : Nat) : Prop := ∀ (j : J) (room : Int), MJ j → 0 ≤ room → room ≤ 4294967296 → FnOK Tryz.prog fRightIn [.agg (vwJ j), .int .i64 d, .ptr 0 0] [nB room] ⟨.bool (rightJ j d room).1, [nB (rightJ j d room).2], [0]⟩

theorem right1_ok {d : Nat} (hd : d ≤ 1000) (h : RightOK (d + 1)) (j : J) (room : Int) (hj : MJ j) (h1 : 0 ≤ room) (h2 : room ≤ 4294967296) :
    FnOK Tryz.prog fRightIn1 [.agg (vwJ j), .ptr 0 0, .ptr 1 0] [nB d, pB 2, nB room] ⟨.bool (!(rightJ j (d + 1) room).1), [nB d, pB 2, nB (rightJ j (d + 1) room).2], [2]⟩ := by
  refine fnOK_TL (E := ER) follows named (rightIn1T j d room) (by simp) ?_
  simp only [T.WP, All, and_true]
  rintro y rfl
  rw [wrap_succ (by omega), jOf_vw]
  exact ⟨h j room hj h1 h2, ⟨rfl, rfl, by simp⟩⟩
theorem idx_loop {d : Nat} (hd : d ≤ 1000) (h : RightOK (d + 1)) (L : List J) (hL : L.length ≤ 4294967296) (hi : ∀ x ∈ L, MJ x) (room : Int) (h1 : 0 ≤ room) (h2 : room ≤ 4294967296) :
    match runN (riStep L d) L.length 0 room with
    | .inl r => LoopTo Tryz.prog 3 (lp Tryz.prog fIdxJ 0) (stRi L d 0 room) (.exit 0) ⟨mkTm 19 [], [nB d, pB 2, nB r], [2]⟩
    | .inr b => LoopTo Tryz.prog 3 (lp Tryz.prog fIdxJ 0) (stRi L d 0 room) .ret ⟨mkTm 19 [(4, .int .i64 b.1)], [nB d, pB 2, nB b.2], [2]⟩ := by
  have key := roundsT (E := ER) (nf := nfRi) (st := fun i r => stRi L d (i : Nat) r) (n := L.length) (fun _ r => 0 ≤ r ∧ r ≤ 4294967296) (riStep L d)
    (sx := fun r => ⟨mkTm 19 [], [nB d, pB 2, nB r], [2]⟩) (sr := fun b => ⟨mkTm 19 [(4, .int .i64 b.1)], [nB d, pB 2, nB b.2], [2]⟩) (ex := .exit 0) (ex' := .ret)
    follows named (by simp) (by simp) (fun i r => idx0 L d (i : Nat) r) (fun i r hi' hr => ?_) (fun r hr => ?_) L.length 0 room (by simp) ⟨h1, h2⟩
  · cases hs : runN (riStep L d) L.length 0 room <;> rw [hs] at key
    · exact key.1
    · exact key
  · have hat := vwJ_at L i (by omega)
    have hm : MJ (L.getD i J.zero) := hi _ (by rw [List.getD_eq_getElem?_getD, List.getElem?_eq_getElem hi']; exact List.getElem_mem _)
    simp only [WP_cond, T.WP, All, decide_eq_true_eq, decide_eq_false_iff_not, and_true, Int.toNat_natCast, layJ.decL, wrap_succ (show i < 9223372036854775807 by omega), show J.mk 0 0 [] [] [] = J.zero from rfl]
    refine ⟨fun _ => ⟨⟨by omega, by simpa [vwJ, sls] using hat⟩, ?_⟩, fun h => by omega⟩
    unfold riStep
    rintro y rfl
    rw [jOf_vw]
    have hr2 := rightJ_room (L.getD i J.zero) (d + 1) r hr.1
    refine ⟨right1_ok hd h _ r hm hr.1 hr.2, fun h0 => ?_, fun h0 => ?_⟩
    · have e : rightJ (L.getD i J.zero) (d + 1) r = (false, (rightJ (L.getD i J.zero) (d + 1) r).2) := Prod.ext (by simpa using h0) rfl
      rw [e]; exact rfl
    · have e : rightJ (L.getD i J.zero) (d + 1) r = (true, (rightJ (L.getD i J.zero) (d + 1) r).2) := Prod.ext (by simpa using h0) rfl
      have := hr2 (by rw [e])
      rw [e]; exact ⟨rfl, by omega⟩
  · simp only [WP_cond, T.WP, All, decide_eq_true_eq, decide_eq_false_iff_not, and_true]
    ((repeat' with_reducible first | intro _ | apply And.intro) <;> first | omega | rfl | (exfalso; omega) | (simp; done))
def riIdx : Int ⊕ (Nat × Int) → Int
  | .inl _ => -1
  | .inr b => (b.1 : Nat)
def riRoom : Int ⊕ (Nat × Int) → Int
  | .inl r => r
  | .inr b => b.2
noncomputable def lsRi (L : List J) (d room : Int) : Nat → St → Option LRes := fun id _ => match id with
  | 0 => some ⟨runN (riStep L d) L.length 0 room, fun y => .two { keep := [0, 1, 7, 8], wr := [2] } (stRi L d 0 room) y.isLeft (.exit 0) ⟨mkTm 19 [], [nB d, pB 2, nB (riRoom y)], [2]⟩ .ret ⟨mkTm 19 [(4, .int .i64 (riIdx y))], [nB d, pB 2, nB (riRoom y)], [2]⟩⟩
  | _ => none
set_option maxRecDepth 100000 in
theorem idxT (L : List J) (d room : Int) : fnT { P := Tryz.prog, vw := vwA, res := res0, ls := lsRi L d room } 0 fIdxJ [sls encJ L, .fn fRightIn1 [.ptr 0 0, .ptr 1 0]] [nB d, pB 2, nB room] =
  T.bind (runN (riStep L d) (List.length L) 0 room) fun y0 =>
    T.need
      [St.mk
            (mkTm 19
              [(0, V.dsl (List.length L) false (encs encJ L)), (1, V.fn 66 [V.ptr 0 0, V.ptr 1 0]), (7, V.int IntKind.i64 (↑(List.length L) : Int)),
                (8, V.int IntKind.i64 (0 : Int))])
            [nB d, pB 2, nB room] [2] =
          St.mk
            (mkTm 19
              [(0, V.dsl (List.length L) false (encs encJ L)), (1, V.fn 66 [V.ptr 0 0, V.ptr 1 0]), (7, V.int IntKind.i64 (↑(List.length L) : Int)),
                (8, V.int IntKind.i64 (0 : Int))])
            [nB d, pB 2, nB room] [2]]
      (bif Sum.isLeft y0 then
        T.need
          [SoundC (Env.P (Env.mk Tryz.prog vwA res0 (lsRi L d room) [] [] fun _ _ _ _ _ => none)) 3 (blk Tryz.prog fIdxJ 0)
              (St.mk
                (mkTm 19
                  [(0, V.dsl (List.length L) false (encs encJ L)), (1, V.fn 66 [V.ptr 0 0, V.ptr 1 0]), (7, V.int IntKind.i64 (↑(List.length L) : Int)),
                    (8, V.int IntKind.i64 (0 : Int))])
                [nB d, pB 2, nB room] [2])
              (Ex.exit 0) (St.mk (mkTm 19 []) [nB d, pB 2, nB (riRoom y0)] [2])]
          (T.done (Ret.mk (V.int IntKind.i64 (-1 : Int)) [nB d, pB 2, nB (riRoom y0)] [2]))
      else
        T.need
          [SoundC (Env.P (Env.mk Tryz.prog vwA res0 (lsRi L d room) [] [] fun _ _ _ _ _ => none)) 3 (blk Tryz.prog fIdxJ 0)
              (St.mk
                (mkTm 19
                  [(0, V.dsl (List.length L) false (encs encJ L)), (1, V.fn 66 [V.ptr 0 0, V.ptr 1 0]), (7, V.int IntKind.i64 (↑(List.length L) : Int)),
                    (8, V.int IntKind.i64 (0 : Int))])
                [nB d, pB 2, nB room] [2])
              Ex.ret (St.mk (mkTm 19 [(4, V.int IntKind.i64 (riIdx y0))]) [nB d, pB 2, nB (riRoom y0)] [2])]
          (T.done (Ret.mk (V.int IntKind.i64 (riIdx y0)) [nB d, pB 2, nB (riRoom y0)] [2]))) := (T.force_eq _).symm.trans (by kernel_rfl)
theorem idx_ok {d : Nat} (hd : d ≤ 1000) (h : RightOK (d + 1)) (L : List J) (hL : L.length ≤ 4294967296) (hi : ∀ x ∈ L, MJ x) (room : Int) (h1 : 0 ≤ room) (h2 : room ≤ 4294967296) :
    FnOK Tryz.prog fIdxJ [sls encJ L, .fn fRightIn1 [.ptr 0 0, .ptr 1 0]] [nB d, pB 2, nB room] ⟨.int .i64 (riIdx (runN (riStep L d) L.length 0 room)), [nB d, pB 2, nB (riRoom (runN (riStep L d) L.length 0 room))], [2]⟩ := by
  refine fnOK_TL (E := { P := Tryz.prog, vw := vwA, res := res0, ls := lsRi L d room }) follows named (idxT L d room) (by simp) ?_
  simp only [WP_cond, T.WP, All, and_true]
  have key := idx_loop hd h L hL hi room h1 h2
  rintro y rfl
  cases hs : runN (riStep L d) L.length 0 room <;> rw [hs] at key
  · exact ⟨trivial, fun _ => ⟨.loopTo key, ⟨rfl, rfl, by simp⟩⟩, fun h => by simp at h⟩
  · exact ⟨trivial, fun h => by simp at h, fun _ => ⟨.loopTo key, ⟨rfl, rfl, by simp⟩⟩⟩
noncomputable def resIx (L : List J) (d room : Int) : ResT := fun f vs hp => match vs, hp with
  | [.dsl _ _ _, .fn _ _], [some ([.int _ _], _), _, some ([.int _ _], _)] => bif Nat.beq f fIdxJ then some ⟨runN (riStep L d) L.length 0 room, fun y => ⟨.int .i64 (riIdx y), [nB d, pB 2, nB (riRoom y)], [2]⟩⟩ else none
  | _, _ => none
set_option maxRecDepth 100000 in
theorem contT (L : List J) (d room : Int) : fnT { P := Tryz.prog, vw := vwA, res := resIx L d room } 0 fContJ [sls encJ L, .fn fRightIn1 [.ptr 0 0, .ptr 1 0]] [nB d, pB 2, nB room] =
  T.bind (runN (riStep L d) (List.length L) 0 room) fun y0 =>
    T.need
      [FnOK (Env.P (Env.mk Tryz.prog vwA (resIx L d room) (fun _ _ => none) [] [] fun _ _ _ _ _ => none)) 96
          [V.dsl (List.length L) false (encs encJ L), V.fn 66 [V.ptr 0 0, V.ptr 1 0]] [nB d, pB 2, nB room]
          (Ret.mk (V.int IntKind.i64 (riIdx y0)) [nB d, pB 2, nB (riRoom y0)] [2])]
      (T.done (Ret.mk (V.bool (decide (riIdx y0 ≥ (0 : Int)))) [nB d, pB 2, nB (riRoom y0)] [2])) := (T.force_eq _).symm.trans (by kernel_rfl)
theorem cont_ok {d : Nat} (hd : d ≤ 1000) (h : RightOK (d + 1)) (L : List J) (hL : L.length ≤ 4294967296) (hi : ∀ x ∈ L, MJ x) (room : Int) (h1 : 0 ≤ room) (h2 : room ≤ 4294967296) :
    FnOK Tryz.prog fContJ [sls encJ L, .fn fRightIn1 [.ptr 0 0, .ptr 1 0]] [nB d, pB 2, nB room] ⟨.bool (!(rightJs L (d + 1) room).1), [nB d, pB 2, nB (rightJs L (d + 1) room).2], [2]⟩ := by
  refine fnOK_TL (E := { P := Tryz.prog, vw := vwA, res := resIx L d room }) follows named (contT L d room) (by simp) ?_
  simp only [T.WP, All, and_true]
  rintro y rfl
  refine ⟨idx_ok hd h L hL hi room h1 h2, ?_⟩
  have hr := riStep_run L d L.length 0 room (by simp)
  rw [List.drop_zero] at hr
  cases hs : runN (riStep L d) L.length 0 room <;> rw [hs] at hr
  · rw [Sum.elim_inl] at hr; rw [hr]; exact ⟨rfl, rfl, by simp⟩
  · rw [Sum.elim_inr] at hr; rw [hr]
    refine ⟨congrArg V.bool (show decide _ = true from decide_eq_true ?_), rfl, by simp⟩
    show (0 : Int) ≤ ((_ : Nat) : Int)
    omega
theorem right_ok : ∀ (k d : Nat), d + k = 12 → RightOK d
  | 0, d, hd => by
    intro j room hj h1 h2
    refine fnOK_TL (E := ER) follows named (rightInT j d room) (by simp) ?_
    rw [rightJ_eq, if_pos (.inr (.inl (by omega)))]
    simp only [WP_cond, T.WP, All, decide_eq_true_eq, decide_eq_false_iff_not, and_true, wrap_id (show -9223372036854775808 ≤ room - 1 ∧ room - 1 ≤ 9223372036854775807 by omega)]
    exact ⟨fun _ => ⟨rfl, rfl, by simp⟩, fun _ => ⟨fun _ => ⟨rfl, rfl, by simp⟩, fun h => by omega⟩⟩
  | k + 1, d, hd => by
    have ih := right_ok k (d + 1) (by omega)
    intro j room hj h1 h2
    refine fnOK_TL (E := ER) follows named (rightInT j d room) (by simp) ?_
    rw [rightJ_eq]
    simp only [WP_cond, T.WP, All, decide_eq_true_eq, decide_eq_false_iff_not, and_true, wrap_id (show -9223372036854775808 ≤ room - 1 ∧ room - 1 ≤ 9223372036854775807 by omega), jOf_vw]
    refine ⟨fun h0 => ?_, fun h0 => ⟨fun h => by omega, fun h3 => ?_⟩⟩
    · rw [if_pos (.inl h0)]; exact ⟨rfl, rfl, by simp⟩
    rintro y rfl
    refine ⟨partOK_ok j hj.mod, fun h4 => ?_, fun h4 => ?_⟩
    · rw [if_pos (.inr (.inr (by simpa using h4)))]; exact ⟨rfl, rfl, by simp⟩
    · rw [if_neg (by simp only [not_or]; exact ⟨h0, by omega, by simpa using h4⟩)]
      rintro y rfl
      rw [layJ.decL]
      exact ⟨cont_ok (by omega) ih j.items hj.len hj.item (room - 1) (by omega) (by omega), by rw [Bool.not_not]; exact ⟨rfl, rfl, by simp⟩⟩
noncomputable def resOk : ResT := fun f vs hp => match vs, hp with
  | [.agg [.int _ k, .int _ n, .str t, .dsl _ _ ks, .dsl _ _ its], .int _ d, .ptr 0 0], [some ([.int _ room], _)] => bif Nat.beq f fRightIn then some ⟨rightJ (jOf k n t ks its) d room, fun y => ⟨.bool y.1, [nB y.2], [0]⟩⟩ else none
  | _, _ => none
set_option maxRecDepth 100000 in
theorem jsonOKT (j : J) : fnT { P := Tryz.prog, vw := vwA, res := resOk } 0 fIJsonOK [.agg (vwJ j)] [] =
  T.bind (rightJ (jOf (J.kind j) (J.n j) (J.t j) (encs encStr (J.keys j)) (encs encJ (J.items j))) (0 : Int) (400 : Int)) fun y0 =>
    T.need
      [FnOK (Env.P (Env.mk Tryz.prog vwA resOk (fun _ _ => none) [] [] fun _ _ _ _ _ => none)) 42
          [V.agg [V.int IntKind.i64 (J.kind j), V.int IntKind.i64 (J.n j), V.str (J.t j), V.dsl (List.length (J.keys j)) false (encs encStr (J.keys j)), V.dsl (List.length (J.items j)) false (encs encJ (J.items j))],
            V.int IntKind.i64 (0 : Int), V.ptr 0 0]
          [nB (400 : Int)] (Ret.mk (V.bool (Prod.fst y0)) [nB (Prod.snd y0)] [0])]
      (T.done (Ret.mk (V.bool (Prod.fst y0)) [] [])) := (T.force_eq _).symm.trans (by kernel_rfl)
def okJ (j : J) : Bool := (rightJ j 0 400).1
theorem jsonOK_ok (j : J) (hj : MJ j) : FnOK Tryz.prog fIJsonOK [.agg (vwJ j)] [] ⟨.bool (okJ j), [], []⟩ := by
  refine fnOK_TL (E := { P := Tryz.prog, vw := vwA, res := resOk }) follows named (jsonOKT j) (by simp) ?_
  simp only [T.WP, All, and_true, jOf_vw]
  rintro y rfl
  exact ⟨right_ok 12 0 rfl j 400 hj (by omega) (by omega), ⟨rfl, rfl, by simp⟩⟩
end Go.Proofs.YtjgancippgpdhaaGreatDoor

namespace Go.Proofs.YtjgancippgpdhaaGreatDoor
open Go.RowKit
set_option maxRecDepth 100000

theorem Evo.ofGrown {I : Nat → Prop} {w w' : World} {X : Nat → Prop} (h : w.grownBy w' none) (_ : ∀ k, I k → k < w.heap.size) : Evo I w w' X := by
  have hb : ∀ k, k < w.heap.size → w'.heap[k]? = w.heap[k]? := fun k hk => h.block k hk (by simp)
  refine ⟨h.os, h.tape, h.output, h.size, fun k hk _ => hb k hk, fun k s hs => ?_, fun k hk hl => hb k hl⟩
  unfold World.shape? at hs ⊢
  have hk : k < w.heap.size := by
    rcases Nat.lt_or_ge k w.heap.size with h | h
    · exact h
    · rw [Array.getElem?_eq_none h] at hs; cases hs
  rw [hb k hk]; exact hs

/-- A call that only reads, and makes what is its own. -/
theorem FnOK.ofCalls {P : Program} {f : FuncId} {vs : List V} {v : V}
    (h : ∀ (I : Nat → Prop) (w : World) (vals : Array Value), V.RL P I noMu w vs vals.toList → ILt P I w → Calls P f vals w fun e w' => ∃ val, e = .returned val ∧ V.R P I noMu w' v val ∧ w.grownBy w' none) :
    FnOK P f vs [] ⟨v, [], []⟩ := by
  refine ⟨⟨Nat.le_refl _, fun b hb => by simp at hb, fun b hb => by simp at hb, fun b hb => by simp at hb⟩, fun I w μ vals hv pre hdom => ?_⟩
  have hμ : μ = noMu := by
    funext b
    cases hb : μ b with
    | none => rfl
    | some g => have := hdom b g hb; simp at this
  subst hμ
  refine (h I w vals hv pre.ilt).mono ?_
  rintro e w' ⟨val, he, hR, hg⟩
  exact ⟨val, noMu, I, he, hR, ⟨.refl _, fun k hk => .inl hk, .ofGrown hg pre.ilt, .refl _, fun b g hb => .inl hb, fun b hb blk h => by simp at h, fun b hb blk h => by simp at h, fun b c b1 b2 g hne hb hc h1 => by simp at h1⟩⟩

end Go.Proofs.YtjgancippgpdhaaGreatDoor

namespace Go.Proofs
open Go.Shelf

def Tryz.lays138_ren : Go.Shelf.Ren := ⟨fun | 138 => 220 | 195 => 221 | 218 => 222 | 143 => 223 | 219 => 224 | 217 => 122 | 225 => 225 | 224 => 226 | 267 => 227 | 266 => 138 | 314 => 228 | n => n, fun | 9 => 9 | 3 => 3 | 4 => 4 | 5 => 5 | 0 => 0 | 46 => 140 | 146 => 245 | 51 => 104 | n => n, fun | 1 => 1 | n => n⟩
set_option maxRecDepth 100000 in
theorem Tryz.lays138 : Go.Proofs.Lays.n138 Tryz.prog Tryz.lays138_ren where
  mixed := by kernel_rfl
  f138 := Tryz.func220.trans (congrArg some (by kernel_rfl))
  f143 := Tryz.func223.trans (congrArg some (by kernel_rfl))
  f195 := Tryz.func221.trans (congrArg some (by kernel_rfl))
  f217 := Tryz.func122.trans (congrArg some (by kernel_rfl))
  f218 := Tryz.func222.trans (congrArg some (by kernel_rfl))
  f219 := Tryz.func224.trans (congrArg some (by kernel_rfl))
  f224 := Tryz.func226.trans (congrArg some (by kernel_rfl))
  f225 := Tryz.func225.trans (congrArg some (by kernel_rfl))
  f266 := Tryz.func138.trans (congrArg some (by kernel_rfl))
  f267 := Tryz.func227.trans (congrArg some (by kernel_rfl))
  f314 := Tryz.func228.trans (congrArg some (by kernel_rfl))
  t0 := Tryz.underlying0
  a0 := Tryz.isAgg0
  z0 := Tryz.sizeOf0
  v0 := Tryz.zeroValue0
  t3 := Tryz.underlying3
  a3 := Tryz.isAgg3
  z3 := Tryz.sizeOf3
  v3 := Tryz.zeroValue3
  t4 := Tryz.underlying4
  a4 := Tryz.isAgg4
  z4 := Tryz.sizeOf4
  v4 := Tryz.zeroValue4
  t5 := Tryz.underlying5
  a5 := Tryz.isAgg5
  z5 := Tryz.sizeOf5
  v5 := Tryz.zeroValue5
  t9 := Tryz.underlying9
  a9 := Tryz.isAgg9
  z9 := Tryz.sizeOf9
  v9 := Tryz.zeroValue9
  t46 := Tryz.underlying140
  a46 := Tryz.isAgg140
  z46 := Tryz.sizeOf140
  v46 := Tryz.zeroValue140
  t51 := Tryz.underlying104
  a51 := Tryz.isAgg104
  z51 := Tryz.sizeOf104
  v51 := Tryz.zeroValue104
  t146 := Tryz.underlying245
  a146 := Tryz.isAgg245
  z146 := Tryz.sizeOf245
  v146 := Tryz.zeroValue245
  g1 := by kernel_rfl

def Tryz.lays156_ren : Go.Shelf.Ren := ⟨fun | 156 => 51 | 165 => 76 | 166 => 77 | 169 => 78 | 240 => 100 | 241 => 101 | 276 => 119 | 277 => 120 | n => n, fun | 31 => 25 | 9 => 9 | 3 => 3 | 4 => 4 | 0 => 0 | 20 => 20 | 72 => 92 | 76 => 96 | 70 => 90 | 37 => 22 | 75 => 95 | 127 => 119 | 164 => 135 | 5 => 5 | 80 => 47 | n => n, fun | n => n⟩
set_option maxRecDepth 100000 in
theorem Tryz.lays156 : Go.Proofs.Lays.n156 Tryz.prog Tryz.lays156_ren where
  mixed := by kernel_rfl
  f156 := Tryz.func51.trans (congrArg some (by kernel_rfl))
  f165 := Tryz.func76.trans (congrArg some (by kernel_rfl))
  f166 := Tryz.func77.trans (congrArg some (by kernel_rfl))
  f169 := Tryz.func78.trans (congrArg some (by kernel_rfl))
  f240 := Tryz.func100.trans (congrArg some (by kernel_rfl))
  f241 := Tryz.func101.trans (congrArg some (by kernel_rfl))
  f276 := Tryz.func119.trans (congrArg some (by kernel_rfl))
  f277 := Tryz.func120.trans (congrArg some (by kernel_rfl))
  t0 := Tryz.underlying0
  a0 := Tryz.isAgg0
  z0 := Tryz.sizeOf0
  v0 := Tryz.zeroValue0
  t3 := Tryz.underlying3
  a3 := Tryz.isAgg3
  z3 := Tryz.sizeOf3
  v3 := Tryz.zeroValue3
  t4 := Tryz.underlying4
  a4 := Tryz.isAgg4
  z4 := Tryz.sizeOf4
  v4 := Tryz.zeroValue4
  t9 := Tryz.underlying9
  a9 := Tryz.isAgg9
  z9 := Tryz.sizeOf9
  v9 := Tryz.zeroValue9
  t20 := Tryz.underlying20
  a20 := Tryz.isAgg20
  z20 := Tryz.sizeOf20
  v20 := Tryz.zeroValue20
  t31 := Tryz.underlying25
  a31 := Tryz.isAgg25
  z31 := Tryz.sizeOf25
  v31 := Tryz.zeroValue25
  t37 := Tryz.underlying22
  a37 := Tryz.isAgg22
  z37 := Tryz.sizeOf22
  v37 := Tryz.zeroValue22
  t70 := Tryz.underlying90
  a70 := Tryz.isAgg90
  z70 := Tryz.sizeOf90
  v70 := Tryz.zeroValue90
  t72 := Tryz.underlying92
  a72 := Tryz.isAgg92
  z72 := Tryz.sizeOf92
  v72 := Tryz.zeroValue92
  t75 := Tryz.underlying95
  a75 := Tryz.isAgg95
  z75 := Tryz.sizeOf95
  v75 := Tryz.zeroValue95
  t76 := Tryz.underlying96
  a76 := Tryz.isAgg96
  z76 := Tryz.sizeOf96
  v76 := Tryz.zeroValue96
  t127 := Tryz.underlying119
  a127 := Tryz.isAgg119
  z127 := Tryz.sizeOf119
  v127 := Tryz.zeroValue119
  t164 := Tryz.underlying135
  a164 := Tryz.isAgg135
  z164 := Tryz.sizeOf135
  v164 := Tryz.zeroValue135

def Tryz.extra156_ren : Go.Shelf.Ren := ⟨fun | 156 => 51 | 165 => 76 | 166 => 77 | 169 => 78 | 240 => 100 | 241 => 101 | 276 => 119 | 277 => 120 | n => n, fun | 31 => 25 | 9 => 9 | 3 => 3 | 4 => 4 | 0 => 0 | 20 => 20 | 72 => 92 | 76 => 96 | 70 => 90 | 37 => 22 | 75 => 95 | 127 => 119 | 164 => 135 | 5 => 5 | 80 => 47 | n => n, fun | n => n⟩
set_option maxRecDepth 100000 in
theorem Tryz.extra156 : Go.Proofs.Builder.Extra Tryz.prog Tryz.lays156_ren where
  sizeBuilder := by kernel_rfl
  liesBuilder := by kernel_rfl
  t5 := Tryz.underlying5
  a5 := Tryz.isAgg5
  z5 := Tryz.sizeOf5
  v5 := Tryz.zeroValue5
  infoByte := by kernel_rfl
  cellsByte := by kernel_rfl
  sizeByte := by kernel_rfl
  neB5 := by decide

def Tryz.lays171_ren : Go.Shelf.Ren := ⟨fun | 171 => 50 | 243 => 75 | 246 => 99 | 283 => 115 | 284 => 116 | 285 => 117 | 286 => 118 | 129 => 134 | 317 => 133 | 318 => 135 | 319 => 136 | 320 => 137 | 337 => 158 | 338 => 159 | n => n, fun | 3 => 3 | 9 => 9 | 2 => 2 | 4 => 4 | 171 => 129 | 0 => 0 | 53 => 130 | 37 => 22 | 5 => 5 | 173 => 133 | 212 => 157 | 51 => 104 | 20 => 20 | 213 => 158 | 46 => 140 | 232 => 203 | 233 => 204 | n => n, fun | 17 => 0 | 18 => 2 | 19 => 3 | n => n⟩
set_option maxRecDepth 100000 in
theorem Tryz.lays171 : Go.Proofs.LaysM.n171 Tryz.prog Tryz.lays171_ren where
  mixed := by kernel_rfl
  f129 := Tryz.func134.trans (congrArg some (by kernel_rfl))
  f171 := Tryz.func50.trans (congrArg some (by kernel_rfl))
  f243 := Tryz.func75.trans (congrArg some (by kernel_rfl))
  f246 := Tryz.func99.trans (congrArg some (by kernel_rfl))
  f283 := Tryz.func115.trans (congrArg some (by kernel_rfl))
  f284 := Tryz.func116.trans (congrArg some (by kernel_rfl))
  f285 := Tryz.func117.trans (congrArg some (by kernel_rfl))
  f286 := Tryz.func118.trans (congrArg some (by kernel_rfl))
  f317 := Tryz.func133.trans (congrArg some (by kernel_rfl))
  f318 := Tryz.func135.trans (congrArg some (by kernel_rfl))
  f319 := Tryz.func136.trans (congrArg some (by kernel_rfl))
  f320 := Tryz.func137.trans (congrArg some (by kernel_rfl))
  f337 := Tryz.func158.trans (congrArg some (by kernel_rfl))
  f338 := Tryz.func159.trans (congrArg some (by kernel_rfl))
  t0 := Tryz.underlying0
  a0 := Tryz.isAgg0
  z0 := Tryz.sizeOf0
  v0 := Tryz.zeroValue0
  t2 := Tryz.underlying2
  a2 := Tryz.isAgg2
  z2 := Tryz.sizeOf2
  v2 := Tryz.zeroValue2
  t3 := Tryz.underlying3
  a3 := Tryz.isAgg3
  z3 := Tryz.sizeOf3
  v3 := Tryz.zeroValue3
  t4 := Tryz.underlying4
  a4 := Tryz.isAgg4
  z4 := Tryz.sizeOf4
  v4 := Tryz.zeroValue4
  t5 := Tryz.underlying5
  a5 := Tryz.isAgg5
  z5 := Tryz.sizeOf5
  v5 := Tryz.zeroValue5
  t9 := Tryz.underlying9
  a9 := Tryz.isAgg9
  z9 := Tryz.sizeOf9
  v9 := Tryz.zeroValue9
  t20 := Tryz.underlying20
  a20 := Tryz.isAgg20
  z20 := Tryz.sizeOf20
  v20 := Tryz.zeroValue20
  t37 := Tryz.underlying22
  a37 := Tryz.isAgg22
  z37 := Tryz.sizeOf22
  v37 := Tryz.zeroValue22
  t46 := Tryz.underlying140
  a46 := Tryz.isAgg140
  z46 := Tryz.sizeOf140
  v46 := Tryz.zeroValue140
  t51 := Tryz.underlying104
  a51 := Tryz.isAgg104
  z51 := Tryz.sizeOf104
  v51 := Tryz.zeroValue104
  t53 := Tryz.underlying130
  a53 := Tryz.isAgg130
  z53 := Tryz.sizeOf130
  v53 := Tryz.zeroValue130
  t171 := Tryz.underlying129
  a171 := Tryz.isAgg129
  z171 := Tryz.sizeOf129
  v171 := Tryz.zeroValue129
  t173 := Tryz.underlying133
  a173 := Tryz.isAgg133
  z173 := Tryz.sizeOf133
  v173 := Tryz.zeroValue133
  t212 := Tryz.underlying157
  a212 := Tryz.isAgg157
  z212 := Tryz.sizeOf157
  v212 := Tryz.zeroValue157
  t213 := Tryz.underlying158
  a213 := Tryz.isAgg158
  z213 := Tryz.sizeOf158
  t232 := Tryz.underlying203
  a232 := Tryz.isAgg203
  z232 := Tryz.sizeOf203
  v232 := Tryz.zeroValue203
  t233 := Tryz.underlying204
  a233 := Tryz.isAgg204
  z233 := Tryz.sizeOf204
  v233 := Tryz.zeroValue204
  g17 := by kernel_rfl
  g18 := by kernel_rfl
  g19 := by kernel_rfl
  i0 := by kernel_rfl
  i2 := by kernel_rfl
  i3 := by kernel_rfl
  i4 := by kernel_rfl
  i5 := by kernel_rfl
  i9 := by kernel_rfl
  i20 := by kernel_rfl
  i37 := by kernel_rfl
  i46 := by kernel_rfl
  i51 := by kernel_rfl
  i53 := by kernel_rfl
  i171 := by kernel_rfl
  i173 := by kernel_rfl
  i212 := by kernel_rfl
  i232 := by kernel_rfl
  i233 := by kernel_rfl
  m17 := by kernel_rfl
  m18 := by kernel_rfl
  m19 := by kernel_rfl

end Go.Proofs

namespace Go.Proofs.YtjgancippgpdhaaGreatDoor
open Go.RowKit
set_option maxRecDepth 100000

theorem grown_of_below {w w' : World} (h : Below w.heap.size w w') : w.grownBy w' none := ⟨h.os, h.tape, h.output, h.size, fun k hk _ => h.block k hk⟩

theorem count_ok (t : List UInt8) (c : UInt8) : FnOK Tryz.prog 220 [.str t, .str [c]] [] ⟨.int .i64 (t.count c : Nat), [], []⟩ := by
  refine FnOK.ofCalls fun I w vals hv hI => ?_
  simp only [V.RL, V.R] at hv
  obtain ⟨u, us, h1, rfl, u2, us2, rfl, rfl, rfl⟩ := hv
  obtain rfl : vals = #[.string ⟨t.toArray⟩, .string ⟨#[c]⟩] := by cases vals; simp_all
  refine (Any.strings_Count_one Tryz.lays138 ⟨t.toArray⟩ c w).mono ?_
  rintro e w' ⟨he, rfl⟩
  refine ⟨_, he, ?_, ⟨rfl, rfl, rfl, Nat.le_refl _, fun _ _ _ => rfl⟩⟩
  simp only [V.R, Lib.countByte]

theorem join_ok (L : List (List UInt8)) (sep : List UInt8) (hn : L.length ≤ 140737488355328) (hl : (Lib.join L sep).length ≤ 140737488355328) :
    FnOK Tryz.prog 51 [.dsl L.length false (encs encStr L), .str sep] [] ⟨.str (Lib.join L sep), [], []⟩ := by
  refine FnOK.ofCalls fun I w vals hv hI => ?_
  simp only [V.RL, V.R] at hv
  obtain ⟨u, us, h1, ⟨a, cap, rfl, hcap, _, ha, hc⟩, u2, us2, rfl, rfl, rfl⟩ := hv
  obtain rfl : vals = #[.slice a L.length cap, .string ⟨sep.toArray⟩] := by cases vals; simp_all
  have fin : ∀ (e : Ending) (w' : World), (e = .returned (.string ⟨(Lib.join L sep).toArray⟩) ∧ Below w.heap.size w w') → ∃ val, e = .returned val ∧ V.R Tryz.prog I noMu w' (.str (Lib.join L sep)) val ∧ w.grownBy w' none := by
    rintro e w' ⟨he, hb⟩
    exact ⟨_, he, by simp only [V.R], grown_of_below hb⟩
  rcases hc with hc | ⟨g, off, rfl, hg, cells, e, fr, hh, hcs⟩
  · have hL : L = [] := layStr.inj L [] hc
    subst hL
    refine (Any.strings_Join_none Tryz.lays156 Tryz.extra156 a cap ⟨sep.toArray⟩ w).mono ?_
    rintro e w' ⟨he, rfl⟩
    exact fin e _ ⟨he, Below.refl _ _⟩
  · have hlen : (encs encStr L).length = L.length := by rw [layStr.length, Nat.mul_one]
    have hcell : ∀ (j : Nat) x, (L.map fun s => (⟨s.toArray⟩ : ByteArray))[j]? = some x → w.cell? ⟨g, off + j, none⟩ = some (.string x) := by
      intro j x hx
      rw [List.getElem?_map] at hx
      obtain ⟨s, hs, rfl⟩ := Option.map_eq_some_iff.1 hx
      have hj : j < L.length := (List.getElem?_eq_some_iff.1 hs).1
      have he : (encs encStr L)[j]? = some (.str s) := by
        have h2 := layStr.at L [] j 1 hj rfl
        rw [Nat.mul_one] at h2
        have h3 : ((encs encStr L).drop j)[0]? = some (.str (L.getD j [])) := by
          have := congrArg (·[0]?) h2
          simpa [encStr] using this
        rw [List.getElem?_drop, Nat.add_zero] at h3
        rw [h3, List.getD_eq_getElem?_getD, hs]; rfl
      obtain ⟨v, hv1, hv2⟩ := hcs.get he
      simp only [V.R] at hv2
      subst hv2
      rw [hlen, List.getElem?_take, if_pos hj, List.getElem?_drop, Array.getElem?_toList] at hv1
      simp only [World.cell?, hh]
      exact hv1
    have hmap : (L.map fun s => (⟨s.toArray⟩ : ByteArray)).map (·.data.toList) = L := by
      rw [List.map_map]
      conv => rhs; rw [← List.map_id L]
      rfl
    have := Any.strings_Join Tryz.lays156 Tryz.extra156 g off cap (L.map fun s => ⟨s.toArray⟩) ⟨sep.toArray⟩ w hcell (hI _ hg) (by simpa using hn) (by simpa using hcap) (by rw [hmap]; exact hl)
    rw [hmap, List.length_map] at this
    exact this.mono fin

theorem itoa_ok (n : Int) (h : -9223372036854775808 ≤ n ∧ n ≤ 9223372036854775807) : FnOK Tryz.prog 50 [.int .i64 n] [] ⟨.str (Lib.itoa n), [], []⟩ := by
  refine FnOK.ofCalls fun I w vals hv hI => ?_
  simp only [V.RL, V.R] at hv
  obtain ⟨u, us, h1, rfl, rfl⟩ := hv
  obtain rfl : vals = #[.int .i64 n] := by cases vals; simp_all
  have ht := (hI.laid ("internal/strconv.uint64pow10", .u64, Lib.pow10Tab) (by simp [tabs]) 0 (by kernel_rfl)).2
  refine (Any.strconv_Itoa Tryz.lays171 n h.1 h.2 w ht).mono ?_
  rintro e w' ⟨he, k, os, rfl⟩
  refine ⟨_, he, by simp only [V.R], ⟨rfl, rfl, rfl, ?_, fun j hj _ => ?_⟩⟩
  · show w.heap.size ≤ (w.heap ++ os).size
    rw [Array.size_append]; omega
  · show (w.heap ++ os)[j]? = w.heap[j]?
    rw [Array.getElem?_append, if_pos hj]

end Go.Proofs.YtjgancippgpdhaaGreatDoor

namespace Go.Proofs.YtjgancippgpdhaaGreatDoor
open Go.RowKit
set_option maxRecDepth 100000

theorem dgs_dec : ∀ (k u : Nat), u < 10 ^ (k + 1) → dgs (k + 1) (u : Int) = Lib.decDigits u
  | k, u, h => by
    rw [dgs, Lib.decDigits]
    by_cases hu : u < 10
    · rw [if_pos (by omega), dif_pos hu, show ((48 : Int) + (u : Int)).toNat = 48 + u by omega]
    · rw [if_neg (by omega), dif_neg hu]
      have q : (u : Int).tdiv 10 = ((u / 10 : Nat) : Int) := by rw [Int.tdiv_eq_ediv_of_nonneg (by omega)]; omega
      have r : (48 + (u : Int).tmod 10).toNat = 48 + u % 10 := by rw [Int.tmod_eq_emod_of_nonneg (by omega)]; omega
      rcases k with _ | k
      · simp at h; omega
      · rw [q, r, dgs_dec k (u / 10) (by rw [Nat.pow_succ] at h; omega)]
theorem itoa_dg (n : Int) (h : -9223372036854775808 < n ∧ n ≤ 9223372036854775807) : Lib.itoa n = dg n := by
  unfold Lib.itoa dg
  split
  · rw [show -n = (n.natAbs : Int) by omega, dgs_dec 18 _ (by omega)]
  · rw [← dgs_dec 18 n.toNat (by omega), Int.toNat_of_nonneg (by omega)]

/-- The parts of a value's text. -/
def prt (o : Bool) (k : List UInt8) (j : J) : List UInt8 := (if o then quo k ++ [58] else []) ++ pj j
def prts (o : Bool) : List (List UInt8) → List J → List (List UInt8)
  | _, [] => []
  | ks, j :: js => prt o (ks.headD []) j :: prts o ks.tail js
theorem prts_len (o : Bool) : ∀ (its : List J) (ks : List (List UInt8)), (prts o ks its).length = its.length
  | [], ks => rfl
  | j :: js, ks => by rw [prts, List.length_cons, List.length_cons, prts_len o js]
theorem inter_cons (sep x : List UInt8) (xs : List (List UInt8)) : sep.intercalate (x :: xs) = x ++ xs.flatMap (sep ++ ·) := by
  induction xs generalizing x with
  | nil => simp [List.intercalate]
  | cons y ys ih =>
    have := ih y
    simp only [List.intercalate, List.intersperse, List.flatten_cons, List.flatMap_cons] at this ⊢
    rw [this, List.append_assoc]
theorem pjs_flat (o : Bool) : ∀ (its : List J) (ks : List (List UInt8)), pjs o false ks its = (prts o ks its).flatMap ([44] ++ ·)
  | [], ks => by simp [pjs, prts]
  | j :: js, ks => by
    rw [pjs, prts, List.flatMap_cons, pjs_flat o js]
    simp [prt]
theorem join_pjs (o : Bool) (its : List J) (ks : List (List UInt8)) : Lib.join (prts o ks its) [44] = pjs o true ks its := by
  cases its with
  | nil => simp [pjs, prts, Lib.join, List.intercalate]
  | cons j js =>
    rw [Lib.join, prts, inter_cons, pjs, pjs_flat]
    simp [prt]
theorem prts_step (o : Bool) (i : Nat) (ks : List (List UInt8)) (its : List J) (h : i < its.length) : prts o (ks.drop i) (its.drop i) = prt o (ks.getD i []) (its.getD i J.zero) :: prts o (ks.drop (i + 1)) (its.drop (i + 1)) := by
  rw [List.drop_eq_getElem_cons h, prts]
  have e1 : (ks.drop i).headD [] = ks.getD i [] := by
    rw [List.headD_eq_head?_getD, List.head?_drop, List.getD_eq_getElem?_getD]
  have e2 : its[i] = its.getD i J.zero := by rw [List.getD_eq_getElem?_getD, List.getElem?_eq_getElem h]; rfl
  rw [e1, e2, List.tail_drop]

end Go.Proofs.YtjgancippgpdhaaGreatDoor

namespace Go.Proofs.YtjgancippgpdhaaGreatDoor
open Go.RowKit
set_option maxRecDepth 100000

section
variable {β : Type}

/-- The blocks are reckoned, then handed on. -/
def forceVs (l : List V) (k : List V → β) : β :=
  match l with
  | [] => k []
  | x :: xs => forceV x fun y => forceVs xs fun ys => k (y :: ys)
theorem forceVs_eq : ∀ (l : List V) (k : List V → β), forceVs l k = k l
  | [], _ => rfl
  | x :: xs, k => by unfold forceVs; rw [forceV_eq, forceVs_eq xs]
def forceH (hp : Hp) (k : Hp → β) : β :=
  match hp with
  | [] => k []
  | none :: t => forceH t fun t => k (none :: t)
  | some (cs, ty) :: t => forceVs cs fun cs => forceH t fun t => k (some (cs, ty) :: t)
theorem forceH_eq : ∀ (hp : Hp) (k : Hp → β), forceH hp k = k hp
  | [], _ => rfl
  | none :: t, k => by unfold forceH; rw [forceH_eq t]
  | some (cs, ty) :: t, k => by unfold forceH; rw [forceVs_eq, forceH_eq t]

/-- Can an operation change the blocks? -/
def chg : Op → Bool
  | .alloc _ => true
  | .box _ _ => true
  | .buildSlice _ _ _ => true
  | .makeSlice _ _ _ => true
  | .store _ _ _ => true
  | .call _ => true
  | .convert _ _ _ => true
  | _ => false
def forceO (o : Op) (hp : Hp) (k : Hp → β) : β := match chg o with
  | true => forceH hp k
  | false => k hp
theorem forceO_eq (o : Op) (hp : Hp) (k : Hp → β) : forceO o hp k = k hp := by
  unfold forceO; split
  · exact forceH_eq _ _
  · rfl

noncomputable def traceC (P : Program) (callF : CallF) (ops : Array Oper) : List Oper → St → List Rec → (List Rec → St → Option β) → Option β
  | [], s, acc, k => k acc s
  | o :: rest, s, acc, k => match wantedV ops s.tm o with
    | some true => match evOp P callF (evalV s.tm) s.hp o.op with
      | some out => forceV out.v fun v => putK s.tm o.dst v fun tm => forceO o.op out.hp fun hp => traceC P callF ops rest ⟨tm, hp, forceW out.wr s.wr⟩ ((s, out.acc, out.wr) :: acc) k
      | none => none
    | some false => putK s.tm o.dst (.lit undef) fun tm => traceC P callF ops rest ⟨tm, s.hp, s.wr⟩ ((s, [], []) :: acc) k
    | none => none

def iterC (step : St → (Ex → St → Option β) → Option β) (k : Ex → St → Option β) : Nat → St → Option β
  | 0, _ => none
  | n + 1, s => step s fun ex s' => match ex with
    | .normal => iterC step k n s'
    | .exit i => k (.exit i) s'
    | .ret => k .ret s'

noncomputable def codeC (P : Program) (callF : CallF) (n : Nat) : Code → St → (Ex → St → Option β) → Option β
  | .skip, s, k => k .normal s
  | .region _ ops draw, s, k => traceC P callF ops ops.toList s [] fun l s2 => match draw with
    | false => k .normal s2
    | true => match drawOK ops l.reverse s2 with
      | true => k .normal s2
      | false => none
  | .seq x y, s, k => codeC P callF n x s fun ex s' => match ex with
    | .normal => codeC P callF n y s' k
    | .exit i => k (.exit i) s'
    | .ret => k .ret s'
  | .cond c x y, s, k => match evalV s.tm c with
    | .bool true => codeC P callF n x s k
    | .bool false => codeC P callF n y s k
    | _ => none
  | .block id body, s, k => codeC P callF n body s fun ex s' => k (outEx id ex) s'
  | .loop body, s, k => iterC (codeC P callF n body) k n s
  | .exit id, s, k => k (.exit id) s
  | .ret, s, k => k .ret s
  | _, _, _ => none
end

/-- Behind a call: these blocks keep their names; what is known of room stays. -/
def gcC (P : Program) (m : Nat) (ids : List Nat) (v : V) (s : St) : Ret := ⟨frz P s.hp ids m 100 v, (normSt P m [] ids s).hp, (normSt P m [] ids s).wr⟩
/-- What is reached from the results and from what came in keeps its name; frozen: nothing does. -/
def idsC (m : Nat) (frozen : Bool) (v : List V) (hp : Hp) : List Nat := match frozen with
  | true => List.range m
  | false => reach hp 100000 (V.refsL v ++ (hp.take m).flatMap fun (x : Option Blk) => match x with | some blk => V.refsL blk.1 | none => []) (List.range m)
noncomputable def fnC (P : Program) (callF : CallF) (n : Nat) (frozen : FuncId → Bool) : CallF := fun f vs hp =>
  match P.funcs[f]? with
  | some fn => match fn.body with
    | some c => codeC P callF n c ⟨Tm.start (vs.length + (fn.ntmps - vs.length)) vs, hp, []⟩ fun ex s => match ex with
      | .exit _ => none
      | _ => match evResultL P s.hp s.tm fn.results.toList with
        | some v => match permOK hp.length (idsC hp.length (frozen f) v s.hp) with
          | true => match gcC P hp.length (idsC hp.length (frozen f) v s.hp) (oneOf v) s with
            | ⟨v, h, w⟩ => forceV v fun v => forceH h fun h => some ⟨v, h, w⟩
          | false => none
        | none => none
    | none => none
  | none => none
/-- Deep; what 'ext' tells of a call is taken from there. -/
noncomputable def deepC (P : Program) (ext : CallF) (n : Nat) (frozen : FuncId → Bool) : Nat → CallF
  | 0 => fun _ _ _ => none
  | d + 1 => fun f vs hp => match ext f vs hp with
    | some r => some r
    | none => fnC P (deepC P ext n frozen d) n frozen f vs hp

section
variable {P : Program} {callF : CallF} {β : Type}

theorem traceC_ok (hb : Bodied P callF) (hc : CallOK P callF) {ops : Array Oper} : ∀ {os : List Oper} {s : St} {acc : List Rec} {k : List Rec → St → Option β} {r : β}, traceC P callF ops os s acc k = some r →
    ∃ l s2, TraceR P ops os s l s2 ∧ k (l.reverse ++ acc) s2 = some r
  | [], s, acc, k, r, h => ⟨[], s, .nil s, by simpa [traceC] using h⟩
  | o :: rest, s, acc, k, r, h => by
    unfold traceC at h
    split at h
    · rename_i hw
      split at h
      · rename_i out ho
        simp only [forceV_eq, putK_eq, forceO_eq, forceW_eq] at h
        obtain ⟨l, s2, h1, h2⟩ := traceC_ok hb hc h
        refine ⟨_, s2, .cons callF hb hc (by simp only [evStep, hw, ho, forceV_eq, putK_eq, forceW_eq]; rfl) h1, ?_⟩
        simpa using h2
      · cases h
    · rename_i hw
      simp only [putK_eq] at h
      obtain ⟨l, s2, h1, h2⟩ := traceC_ok hb hc h
      refine ⟨_, s2, .cons callF hb hc (by simp only [evStep, hw, putK_eq]; rfl) h1, ?_⟩
      simpa using h2
    · cases h

theorem iterC_ok {m : Nat} {body : Code} {step : St → (Ex → St → Option β) → Option β} (hs : ∀ s k r, step s k = some r → ∃ ex s', SoundC P m body s ex s' ∧ k ex s' = some r) {k : Ex → St → Option β} {r : β} :
    ∀ (n : Nat) (s : St), iterC step k n s = some r → ∃ ex s', LoopTo P m body s ex s' ∧ k ex s' = some r
  | 0, s, h => by cases h
  | n + 1, s, h => by
    unfold iterC at h
    obtain ⟨ex, s', h1, h2⟩ := hs _ _ _ h
    cases ex with
    | normal =>
      obtain ⟨ex, s2, h3, h4⟩ := iterC_ok hs n s' h2
      exact ⟨ex, s2, .step h1 h3, h4⟩
    | exit i => exact ⟨_, _, .done h1 (by simp), h2⟩
    | ret => exact ⟨_, _, .done h1 (by simp), h2⟩

theorem codeC_ok (hm : P.follows .mixedOrders = true) (hn : Named P) (hb : Bodied P callF) (hc : CallOK P callF) {m n : Nat} : ∀ {c : Code} {s : St} {k : Ex → St → Option β} {r : β}, codeC P callF n c s k = some r → ∃ ex s', SoundC P m c s ex s' ∧ k ex s' = some r
  | .skip, s, k, r, h => ⟨.normal, s, .skip, h⟩
  | .region id ops draw, s, k, r, h => by
    unfold codeC at h
    obtain ⟨l, s2, h1, h2⟩ := traceC_ok hb hc h
    cases draw with
    | false => exact ⟨_, _, .region hm hn h1 (fun h => by cases h), h2⟩
    | true =>
      simp only [List.append_nil, List.reverse_reverse] at h2
      split at h2
      · rename_i hd; exact ⟨_, _, .region hm hn h1 (fun _ => hd), h2⟩
      · cases h2
  | .seq x y, s, k, r, h => by
    unfold codeC at h
    obtain ⟨ex, s1, h1, h2⟩ := codeC_ok hm hn hb hc (m := m) h
    cases ex with
    | normal =>
      obtain ⟨ex, s2, h3, h4⟩ := codeC_ok hm hn hb hc (m := m) h2
      exact ⟨_, _, .seq h1 h3, h4⟩
    | exit i => exact ⟨_, _, .seq_out h1 (by simp), h2⟩
    | ret => exact ⟨_, _, .seq_out h1 (by simp), h2⟩
  | .cond c x y, s, k, r, h => by
    unfold codeC at h
    split at h
    · rename_i hv
      obtain ⟨ex, s1, h1, h2⟩ := codeC_ok hm hn hb hc (m := m) h
      exact ⟨_, _, .cond (b := true) hv h1, h2⟩
    · rename_i hv
      obtain ⟨ex, s1, h1, h2⟩ := codeC_ok hm hn hb hc (m := m) h
      exact ⟨_, _, .cond (b := false) hv h1, h2⟩
    · cases h
  | .block id body, s, k, r, h => by
    unfold codeC at h
    obtain ⟨ex, s1, h1, h2⟩ := codeC_ok hm hn hb hc (m := m) h
    exact ⟨_, _, .block h1, h2⟩
  | .loop body, s, k, r, h => by
    unfold codeC at h
    obtain ⟨ex, s', h1, h2⟩ := iterC_ok (m := m) (body := body) (fun s k r h => codeC_ok hm hn hb hc (m := m) h) n s h
    exact ⟨_, _, .loopTo h1, h2⟩
  | .exit id, s, k, r, h => ⟨_, _, .exit, h⟩
  | .ret, s, k, r, h => ⟨_, _, .ret, h⟩
  | .rangeFunc _ _ _ _, _, _, _, h => by cases h
  | .scope _, _, _, _, h => by cases h
  | .label _, _, _, _, h => by cases h
  | .goto _, _, _, _, h => by cases h
  | .refuse _, _, _, _, h => by cases h

theorem gcC_tidy {hp0 : Hp} {s : St} {v : V} {ids : List Nat} (hp : permOK hp0.length ids = true) (C : SR hp0 s) : FnTidy hp0 (gcC P hp0.length ids v s) := by
  have C' := (norm_weakV (P := P) (keep := []) hp).st hp0 rfl C
  exact ⟨C'.len, fun b hb hn => C'.frame b hb hn, fun b hb => by simp only [gcC, normSt, List.mem_eraseDups, List.mem_filter, decide_eq_true_eq] at hb; exact hb.2, C'.alive⟩
theorem gcC_sound {hp0 : Hp} {I0 Im : Nat → Prop} {μ0 μ : Mu} {w0 w : World} {s : St} {a : Act} {v : V} {val : Value} {ids : List Nat} (hp : permOK hp0.length ids = true) (C : CI P hp0 I0 μ0 w0 s a w Im μ) (_ : ∀ b g, μ0 b = some g → b < hp0.length) (hv : V.R P Im μ w v val) :
    ∃ μr Ir, V.R P Ir μr w (gcC P hp0.length ids v s).v val ∧ Good P I0 Ir μ0 μr w0 w hp0 (gcC P hp0.length ids v s).hp (List.range hp0.length) (gcC P hp0.length ids v s).wr := by
  obtain ⟨Ir, μr, C', hV⟩ := (norm_weakV (keep := []) hp).run rfl C
  refine ⟨μr, Ir, hV _ _ hv, ⟨C'.isub, fun k hk => ?_, C'.evo, C'.le, fun b g hg => ?_, fun b _ blk h => C'.holds b blk h, fun b hb blk h g hg => ?_, fun b c b1 b2 g hne _ _ h1 h2 => C'.inj b c b1 b2 g hne h1 h2⟩⟩
  · rcases C'.igrow k hk with h | h | ⟨c, hcw, hcl, hcg, hca, hcn⟩
    · exact .inl h
    · exact .inr (.inl ⟨h, C'.ilt k hk⟩)
    · exact .inr (.inr ⟨c, hcw, hcg, hca, hcn⟩)
  · by_cases hb : b < hp0.length
    · exact .inl (C'.dom0 b g hg hb)
    · exact .inr ⟨by omega, C'.dom b g hg⟩
  · rcases C'.prov b hb blk h g hg with h | ⟨c, hcw, hcl, hcg, hca, hcn⟩
    · exact .inl h
    · exact .inr ⟨c, hcw, hcg, hca, hcn⟩
theorem fnOK_codeC {f : FuncId} {fn : Func} {c : Code} {vs : List V} {hp : Hp} {ex : Ex} {s : St} {v : List V} {r : Ret} (hfn : P.funcs[f]? = some fn) (hc : fn.body = some c)
    (h : SoundC P hp.length c ⟨Tm.start (vs.length + (fn.ntmps - vs.length)) vs, hp, []⟩ ex s) (hex : ex = .normal ∨ ex = .ret) (hres : evResultL P s.hp s.tm fn.results.toList = some v)
    {ids : List Nat} (hids : permOK hp.length ids = true) (hr : gcC P hp.length ids (oneOf v) s = r) : FnOK P f vs hp r := by
  subst hr
  have hst : SR hp s := h.st hp rfl ⟨Nat.le_refl _, fun _ _ _ => rfl, fun _ _ h => h⟩
  refine ⟨gcC_tidy hids hst, fun I w μ vals hvals pre hdom => ?_⟩
  have hh : ∀ b blk, hp[b]? = some (some blk) → Holds P I μ w b blk := fun b blk hb => pre.holds b (by simpa using at_lt hb) blk hb
  have hinj : ∀ b c blk blk' g, b ≠ c → hp[b]? = some (some blk) → hp[c]? = some (some blk') → μ b = some g → μ c = some g → False := fun b c b1 b2 g hne hb hc => pre.inj b (by simpa using at_lt hb) c (by simpa using at_lt hc) b1 b2 g hne hb hc
  have hvl := hvals.length
  simp at hvl
  have C0 : CI P hp I μ w ⟨Tm.start (vs.length + (fn.ntmps - vs.length)) vs, hp, []⟩ { tmps := vals ++ Array.replicate (fn.ntmps - vals.size) undef, defers := [] } w I μ := by
    refine ⟨fun t => ?_, by simp [hvl, Tm.start, Tm.fill_n], rfl, hh, hinj, hdom, fun b g hg _ => hg, .refl _ _, .refl _, fun b hb blk hblk => ?_, Nat.le_refl _, fun _ _ _ => rfl, fun _ _ h => h, by simp, .refl _, fun k h => .inl h, pre.ilt, ⟨hh, hinj, hdom⟩⟩
    · rcases Tm.start_get (vs.length + (fn.ntmps - vs.length)) vs t with e | e
      · show V.R P I μ w ((Tm.start (vs.length + (fn.ntmps - vs.length)) vs).get t) _
        rw [e]; simp [V.R]
      · have ht : t < vs.length := (List.getElem?_eq_some_iff.1 e).1
        obtain ⟨u, hu, hR⟩ := hvals.get e
        rw [Array.getElem?_toList] at hu
        rw [Array.getD_eq_getD_getElem?, Array.getElem?_append, if_pos (by omega), hu]
        exact hR
    · have := at_lt (hp := hp) hblk; omega
  refine calls_of_wp hfn hc ?_
  refine h.run rfl C0 fun a' w' μ' Im' C => ?_
  obtain ⟨val, hr, hR⟩ := results_sound (fn := fn) C.tm C.holds C.ilt C.inj hres
  obtain ⟨μr, Ir, hR', hG⟩ := gcC_sound hids C hdom hR
  rcases hex with rfl | rfl
  · exact ⟨C.defers, val, hr, val, μr, Ir, rfl, hR', hG⟩
  · exact ⟨C.defers, val, hr, val, μr, Ir, rfl, hR', hG⟩


theorem fnC_ok (hm : P.follows .mixedOrders = true) (hn : Named P) (hb : Bodied P callF) (hc : CallOK P callF) {n : Nat} {frozen : FuncId → Bool} : CallOK P (fnC P callF n frozen) := by
  intro f vs hp r h
  unfold fnC at h
  split at h
  · rename_i fn hfn
    split at h
    · rename_i c hbody
      obtain ⟨ex, s, h1, h2⟩ := codeC_ok hm hn hb hc (m := hp.length) h
      split at h2
      · cases h2
      · rename_i hex
        split at h2
        · rename_i v hv
          split at h2
          · rename_i hp1
            simp only [forceV_eq, forceH_eq, Option.some.injEq] at h2
            refine fnOK_codeC hfn hbody h1 ?_ hv hp1 ?_
            · cases ex with
              | normal => exact .inl rfl
              | ret => exact .inr rfl
              | exit i => exact absurd rfl (hex i)
            · rw [← h2]
          · cases h2
        · cases h2
    · cases h
  · cases h
theorem fnC_bodied {n : Nat} {frozen : FuncId → Bool} : Bodied P (fnC P callF n frozen) := by
  intro f vs hp r h
  unfold fnC at h
  split at h
  · rename_i fn hfn
    split at h
    · rename_i c hbody
      exact ⟨fn, hfn, by rw [hbody]; rfl⟩
    · cases h
  · cases h
theorem deepC_ok (hm : P.follows .mixedOrders = true) (hn : Named P) {ext : CallF} (hb : Bodied P ext) (hc : CallOK P ext) {n : Nat} {frozen : FuncId → Bool} : ∀ d, CallOK P (deepC P ext n frozen d) ∧ Bodied P (deepC P ext n frozen d)
  | 0 => ⟨fun _ _ _ _ h => (nomatch h), fun _ _ _ _ h => (nomatch h)⟩
  | d + 1 => by
    obtain ⟨h1, h2⟩ := deepC_ok hm hn hb hc (n := n) (frozen := frozen) d
    constructor
    · intro f vs hp r h
      unfold deepC at h
      split at h
      · rename_i he; cases h; exact hc _ _ _ _ he
      · exact fnC_ok hm hn h2 h1 _ _ _ _ h
    · intro f vs hp r h
      unfold deepC at h
      split at h
      · rename_i he; exact hb _ _ _ _ he
      · exact fnC_bodied _ _ _ _ h
end

end Go.Proofs.YtjgancippgpdhaaGreatDoor

namespace Go.Proofs.YtjgancippgpdhaaGreatDoor
open Go.RowKit
set_option maxRecDepth 100000

theorem disable (w : World) : (callFunc 171 #[]).run Tryz.prog w = .ok (.value (.tuple #[])) w := run_call_mark0 Tryz.func171 (by kernel_rfl) (by kernel_rfl) (by kernel_rfl) .disable (by kernel_rfl) w
theorem enable (w : World) : (callFunc 173 #[]).run Tryz.prog w = .ok (.value (.tuple #[])) w := run_call_mark0 Tryz.func173 (by kernel_rfl) (by kernel_rfl) (by kernel_rfl) .enable (by kernel_rfl) w
theorem acquire (a : Addr) (w : World) : (callFunc 174 #[.pointer (some a)]).run Tryz.prog w = .ok (.value (.tuple #[])) w := run_call_marked Tryz.func174 (by kernel_rfl) (by kernel_rfl) (by kernel_rfl) .acquire (by kernel_rfl) a w
theorem releaseMerge (a : Addr) (w : World) : (callFunc 176 #[.pointer (some a)]).run Tryz.prog w = .ok (.value (.tuple #[])) w := run_call_marked Tryz.func176 (by kernel_rfl) (by kernel_rfl) (by kernel_rfl) .releaseMerge (by kernel_rfl) a w

/-- '(*sync/atomic.Bool).Store(true)', as a deferred call. -/
theorem store_deferred (a : Addr) (x : Value) (u : FrameMode) (w : World) (hc : w.cell? a = some x) (hz : w.frozen? a = false) :
    CallsD Tryz.prog 130 #[.pointer (some a), .bool true] u w fun e u' w' => u' = u ∧ (e = .returned (.tuple #[]) ∧ w' = w.drew.setCell a (.int .u32 1)) := by
  have hc' : w.drew.cell? a = some x := by go_simp
  have hz' : w.drew.frozen? a = false := by go_simp
  have hst := run_call_store (P := Tryz.prog) Tryz.func154 (by kernel_rfl) (by kernel_rfl) (by kernel_rfl) (by kernel_rfl) (k := .u32) (y := 1) hc' hz'
  go_enter_d Tryz.func130, Tryz.ntmps130
  go_wp2
  go_region_calls
  all_goals (go_end0; exact ⟨rfl, rfl⟩)

set_option maxRecDepth 100000 in
set_option maxHeartbeats 1600000 in
/-- '(*sync.Mutex).Unlock', as a deferred call, the lock held and nobody waiting. -/
theorem unlock_deferred (a : Addr) (u : FrameMode) (w : World) (hc : w.cell? a = some (.int .i32 1)) (hz : w.frozen? a = false) :
    CallsD Tryz.prog 129 #[.pointer (some a)] u w fun e u' w' => u' = u ∧ (e = .returned (.tuple #[]) ∧ w' = w.setCell a (.int .i32 0)) := by
  have hd := disable
  have he := enable
  have hr := releaseMerge
  have hadd := run_call_add (P := Tryz.prog) Tryz.func177 (by kernel_rfl) (by kernel_rfl) (by kernel_rfl) .i32 (by kernel_rfl) (y := -1) (s := 0) hc hz (by simp [go_sem]; rfl)
  have hcv := run_convert_to_unsafe (P := Tryz.prog) (src := 193) (dst := 135) Tryz.underlying193 Tryz.underlying135 (by kernel_rfl) hc
  go_enter_d Tryz.func129, Tryz.ntmps129
  go_wp2
  go_end0
  go_wp2
  go_end0
  exact ⟨rfl, rfl⟩

set_option maxRecDepth 100000 in
set_option maxHeartbeats 1600000 in
/-- '(*sync.Mutex).Lock', the lock free. -/
theorem lock_free (a : Addr) (w : World) (hc : w.cell? a = some (.int .i32 0)) (hz : w.frozen? a = false) :
    Calls Tryz.prog 128 #[.pointer (some a)] w fun e w' => e = .returned (.tuple #[]) ∧ w' = w.setCell a (.int .i32 1) := by
  have hd := disable
  have he := enable
  have ha := acquire
  have hcas := run_call_cas_hit (P := Tryz.prog) Tryz.func172 (by kernel_rfl) (by kernel_rfl) (by kernel_rfl) .i32 (by kernel_rfl) (y := 1) hc hz
  have hc' : (w.setCell a (.int .i32 1)).cell? a = some (.int .i32 1) := World.cell?_setCell_same w a _ hc
  have hcv := run_convert_to_unsafe (P := Tryz.prog) (src := 193) (dst := 135) Tryz.underlying193 Tryz.underlying135 (by kernel_rfl) hc'
  go_enter Tryz.func128, Tryz.ntmps128
  go_wp2
  first | go_end0 | (simp only [Exit.inBlock, Exit.then]; refine bodyPost_ret (results_none rfl _ _ _) rfl ?_) | refine bodyPost_ret (results_none rfl _ _ _) rfl ?_
  go_wp2
  go_end0
  exact ⟨rfl, rfl⟩

end Go.Proofs.YtjgancippgpdhaaGreatDoor

namespace Go.Proofs.YtjgancippgpdhaaGreatDoor
open Go.RowKit
set_option maxRecDepth 100000

abbrev fBuildOnce : Nat := 98
/-- What holds of the Once's cells while its function runs. -/
structure Held (b off : Nat) (w : World) : Prop where
  h0 : w.cell? ⟨b, off, none⟩ = some (.int .u32 0)
  h1 : w.cell? ⟨b, off + 1, none⟩ = some (.int .i32 1)
  f0 : w.frozen? ⟨b, off, none⟩ = false
  f1 : w.frozen? ⟨b, off + 1, none⟩ = false

set_option maxRecDepth 100000 in
set_option maxHeartbeats 1600000 in
theorem slow_any (b off : Nat) (recv : Value) (R : World → Prop) (w : World)
    (h0 : w.cell? ⟨b, off, none⟩ = some (.int .u32 0)) (h1 : w.cell? ⟨b, off + 1, none⟩ = some (.int .i32 0))
    (f1 : w.frozen? ⟨b, off + 1, none⟩ = false)
    (hf : Calls Tryz.prog 98 #[recv] (w.setCell ⟨b, off + 1, none⟩ (.int .i32 1)) fun e w' => e = .returned (.tuple #[]) ∧ R w') (hR : ∀ w', R w' → Held b off w') :
    Calls Tryz.prog 113 #[.pointer (some ⟨b, off, none⟩), .func (.func 98) #[recv] #[]] w fun e w' => e = .returned (.tuple #[]) ∧
      ∃ w2, R w2 ∧ w' = (w2.drew.setCell ⟨b, off, none⟩ (.int .u32 1)).setCell ⟨b, off + 1, none⟩ (.int .i32 0) := by
  have hl := run_call_load (P := Tryz.prog) Tryz.func127 (by kernel_rfl) (by kernel_rfl) (by kernel_rfl) .u32 (by kernel_rfl) (w := w.setCell ⟨b, off + 1, none⟩ (.int .i32 1)) (a := ⟨b, off, none⟩) (x := 0) ((World.cell?_setCell_other _ ⟨b, off + 1, none⟩ ⟨b, off, none⟩ _ (by simp)).trans h0)
  have hnot : ∀ (x : Bool) (w : World), (Op.unary .not (.bool x)).run Tryz.prog w = .ok (.bool (!x)) w := fun _ _ => rfl
  go_enter_defers Tryz.func113, Tryz.ntmps113
  go_wp2_with (first
    | (go_at_call 128; refine (lock_free ⟨b, off + 1, none⟩ _ (by go_simp) (by go_simp)).mono ?_; rintro e w' ⟨rfl, rfl⟩)
    | (go_at_call 112; go_in)
    | (go_at_call 98; refine hf.mono ?_; rintro e w' ⟨rfl, hr⟩))
  have H := hR _ hr
  refine leaves_cons (f := 130) (args := #[.pointer (some ⟨b, off, none⟩), .bool true]) (by simp) (by simp [go_sem]) ?_
  refine (store_deferred ⟨b, off, none⟩ (.int .u32 0) .returning _ H.h0 H.f0).mono ?_
  rintro e u' w'' ⟨rfl, rfl, rfl⟩
  refine leaves_cons (f := 129) (args := #[.pointer (some ⟨b, off + 1, none⟩)]) (by simp [settle]) (by simp [go_sem]) ?_
  refine (unlock_deferred ⟨b, off + 1, none⟩ _ _ ?_ (by simp [H.f1])).mono ?_
  · refine (World.cell?_setCell_other _ ⟨b, off, none⟩ ⟨b, off + 1, none⟩ _ (by simp)).trans ?_
    rw [World.cell?_drew]
    exact H.h1
  rintro e u' w'' ⟨rfl, rfl, rfl⟩
  simp [Leaves, settle, results, Tryz.results113]
  exact ⟨_, hr, rfl⟩

set_option maxRecDepth 100000 in
set_option maxHeartbeats 1600000 in
/-- '(*sync.Once).Do', not yet done, the lock free. -/
theorem do_first (b off : Nat) (recv : Value) (R : World → Prop) (w : World)
    (h0 : w.cell? ⟨b, off, none⟩ = some (.int .u32 0)) (h1 : w.cell? ⟨b, off + 1, none⟩ = some (.int .i32 0))
    (f1 : w.frozen? ⟨b, off + 1, none⟩ = false)
    (hf : Calls Tryz.prog 98 #[recv] (w.setCell ⟨b, off + 1, none⟩ (.int .i32 1)) fun e w' => e = .returned (.tuple #[]) ∧ R w') (hR : ∀ w', R w' → Held b off w') :
    Calls Tryz.prog 97 #[.pointer (some ⟨b, off, none⟩), .func (.func 98) #[recv] #[]] w fun e w' => e = .returned (.tuple #[]) ∧
      ∃ w2, R w2 ∧ w' = (w2.drew.setCell ⟨b, off, none⟩ (.int .u32 1)).setCell ⟨b, off + 1, none⟩ (.int .i32 0) := by
  have hl := run_call_load (P := Tryz.prog) Tryz.func127 (by kernel_rfl) (by kernel_rfl) (by kernel_rfl) .u32 (by kernel_rfl) h0
  have hnot : ∀ (x : Bool) (w : World), (Op.unary .not (.bool x)).run Tryz.prog w = .ok (.bool (!x)) w := fun _ _ => rfl
  go_enter Tryz.func97, Tryz.ntmps97
  go_wp2_with (first
    | (go_at_call 113; refine (slow_any b off recv R _ h0 h1 f1 hf hR).mono ?_; rintro e w' ⟨rfl, hr⟩)
    | (go_at_call 112; go_in))
  go_end0
  exact ⟨rfl, hr⟩

end Go.Proofs.YtjgancippgpdhaaGreatDoor

namespace Go.Proofs.YtjgancippgpdhaaGreatDoor
open Go.RowKit
set_option maxRecDepth 100000

section
variable {P : Program} {I I1 I2 : Nat → Prop} {μ μ1 μ2 : Mu} {w w1 w2 : World} {hp hp1 hp2 : Hp}

theorem Good.trans {wr1 wr2 wr : List Nat} (G1 : Good P I I1 μ μ1 w w1 hp hp1 (List.range hp.length) wr1) (G2 : Good P I1 I2 μ1 μ2 w1 w2 hp1 hp2 (List.range hp1.length) wr2)
    (hl1 : hp.length ≤ hp1.length) (hl2 : hp1.length ≤ hp2.length) (hw2 : ∀ b ∈ wr2, b < hp.length) (al1 : ∀ b, b < hp.length → Alive hp1 b → Alive hp b) (al2 : ∀ b, b < hp1.length → Alive hp2 b → Alive hp1 b)
    (h1 : ∀ b ∈ wr1, b ∈ wr) (h2 : ∀ b ∈ wr2, b ∈ wr) : Good P I I2 μ μ2 w w2 hp hp2 (List.range hp.length) wr := by
  have back : ∀ b g, b < hp.length → μ1 b = some g → μ b = some g := by
    intro b g hb hg
    rcases G1.dom b g hg with h | h
    · exact h
    · omega
  have dead : ∀ c, c < hp1.length → hp1[c]? = some none → hp2[c]? = some none := by
    intro c hc h
    have hl : c < hp2.length := by omega
    rw [List.getElem?_eq_getElem hl]
    cases hx : hp2[c] with
    | none => rfl
    | some blk =>
      obtain ⟨blk', hb'⟩ := al2 c hc ⟨blk, by rw [List.getElem?_eq_getElem hl, hx]⟩
      rw [h] at hb'; cases hb'
  refine ⟨fun k hk => G2.isub k (G1.isub k hk), fun k hk => ?_, ?_, G1.le.trans G2.le, fun b g hg => ?_, fun b hb blk hblk => ?_, fun b hb blk hblk g hg => ?_, fun b c blk blk' g hne hb hc hbb hcc hbg hcg => ?_⟩
  · rcases G2.igrow k hk with h | ⟨h, h'⟩ | ⟨c, c1, c2, ⟨blk, c3⟩, c4⟩
    · rcases G1.igrow k h with h | ⟨h, h'⟩ | ⟨c, c1, c2, c3, c4⟩
      · exact .inl h
      · exact .inr (.inl ⟨h, Nat.lt_of_lt_of_le h' G2.evo.size⟩)
      · exact .inr (.inr ⟨c, h1 c c1, c2, c3, dead c (at_lt c4) c4⟩)
    · exact .inr (.inl ⟨Nat.le_trans G1.evo.size h, h'⟩)
    · have hc := hw2 c c1
      exact .inr (.inr ⟨c, h2 c c1, back c k hc c2, al1 c hc ⟨blk, c3⟩, c4⟩)
  · refine (G1.evo.mono fun k ⟨b, hb, hg⟩ => ⟨b, h1 b hb, hg⟩).trans G2.evo G1.isub fun j hj ⟨b, hb, hg⟩ => ⟨b, h2 b hb, back b j (hw2 b hb) hg⟩
  · rcases G2.dom b g hg with h | h
    · rcases G1.dom b g h with h | h
      · exact .inl h
      · exact .inr (by omega)
    · exact .inr (by omega)
  · refine G2.holds b ?_ blk hblk
    by_cases h : b < hp1.length
    · exact .inl (by simpa using h)
    · exact .inr (by omega)
  · by_cases h : b < hp1.length
    · obtain ⟨blk1, hb1⟩ := al2 b h ⟨blk, hblk⟩
      have hg1 : μ1 b = some g := by
        rcases G2.dom b g hg with h' | h'
        · exact h'
        · omega
      rcases G1.prov b hb blk1 hb1 g hg1 with h' | ⟨c, c1, c2, c3, c4⟩
      · exact .inl h'
      · exact .inr ⟨c, h1 c c1, c2, c3, dead c (at_lt c4) c4⟩
    · rcases G2.prov b (by omega) blk hblk g hg with h' | ⟨c, c1, c2, ⟨blk1, c3⟩, c4⟩
      · exact .inl (Nat.le_trans G1.evo.size h')
      · have hc := hw2 c c1
        exact .inr ⟨c, h2 c c1, back c g hc c2, al1 c hc ⟨blk1, c3⟩, c4⟩
  · have key : ∀ b blk, (b ∈ List.range hp.length ∨ hp.length ≤ b) → hp2[b]? = some (some blk) → (b ∈ List.range hp1.length ∨ hp1.length ≤ b) := by
      intro b blk _ _
      by_cases h : b < hp1.length
      · exact .inl (by simpa using h)
      · exact .inr (by omega)
    exact G2.inj b c blk blk' g hne (key b blk hb hbb) (key c blk' hc hcc) hbb hcc hbg hcg

/-- What is known behind a step is known ahead of the next one. -/
theorem Good.pre {wr : List Nat} (G : Good P I I1 μ μ1 w w1 hp hp1 (List.range hp.length) wr) (hl1 : hp.length ≤ hp1.length) {t0 : Nat} (p0 : Pre P I μ w hp (List.range hp.length) t0) (hdom : ∀ b g, μ b = some g → b < hp.length) (top : Nat) : Pre P I1 μ1 w1 hp1 (List.range hp1.length) top := by
  refine ⟨p0.ilt.step G.evo G.isub fun k hk => ?_, fun b hb blk h => ?_, fun b hb c hc blk blk' g hne h1 h2 h3 h4 => ?_, fun b hb _ => ?_⟩
  · rcases G.igrow k hk with h | ⟨_, h⟩ | ⟨c, c1, c2, ⟨blk, c3⟩, _⟩
    · exact Nat.lt_of_lt_of_le (p0.ilt k h) G.evo.size
    · exact h
    · exact Nat.lt_of_lt_of_le ((p0.holds c (by simpa using at_lt c3) _ c3).lt c2) G.evo.size
  · refine G.holds b ?_ blk h
    by_cases h : b < hp.length
    · exact .inl (by simpa using h)
    · exact .inr (by omega)
  · have key : ∀ b : Nat, b ∈ List.range hp.length ∨ hp.length ≤ b := by
      intro b
      by_cases h : b < hp.length
      · exact .inl (by simpa using h)
      · exact .inr (by omega)
    exact G.inj b c blk blk' g hne (key b) (key c) h1 h2 h3 h4
  · cases hμ : μ1 b with
    | none => rfl
    | some g =>
      rcases G.dom b g hμ with h | h
      · have := hdom b g h; omega
      · omega

theorem Good.drew (pre : Pre P I μ w hp (List.range hp.length) hp.length) : Good P I I μ μ w w.drew hp hp (List.range hp.length) [] := by
  have G := Good.same hp pre
  have hE : ∀ X, Evo I w w.drew X := fun X => .drew w X
  refine ⟨.refl _, fun k hk => .inl hk, hE _, .refl _, fun b g h => .inl h, fun b hb blk h => ?_, fun b hb blk h => ?_, G.inj⟩
  · exact (G.holds b hb blk h).keep (hE (fun _ => False)) (.refl _) (.refl _) (fun _ _ h => h) fun g hg => (G.holds b hb blk h).nimm hg
  · exact absurd (at_lt h) (by omega)

theorem splice1 {cs : List V} {j : Nat} {x : V} (h : hasSeal cs = false) (hj : j < cs.length) : spliceV cs j 1 [x] = some (cs.set j x) := by
  unfold spliceV
  rw [h]
  simp only [Option.some.injEq]
  rw [List.set_eq_take_append_cons_drop, if_pos hj]
  simp

/-- A cell of an own block is written. -/
theorem Good.setCell {b g j : Nat} {cs : List V} {T : TypeId} {x : V} {v : Value} (pre : Pre P I μ w hp (List.range hp.length) hp.length) (hb : hp[b]? = some (some (cs, T))) (hs : hasSeal cs = false) (hg : μ b = some g) (hj : j < cs.length) (hx : V.R P I μ w x v) (_ : x.one = true) :
    Good P I I μ μ w (w.setCell ⟨g, j, none⟩ v) hp (hp.set b (some (cs.set j x, T))) (List.range hp.length) [b] := by
  obtain ⟨g', ar, fr, hg', _, hw, hfr, hsz, hcr⟩ := pre.holds b (by simpa using at_lt hb) _ hb
  rw [hg] at hg'; cases hg'
  rw [setCell_eq_setRow w g j ar T fr v hw]
  have hn : V.RL P I μ w [x] [v] := by simp only [V.RL]; exact ⟨v, [], rfl, hx, rfl⟩
  have hle : j + 1 ≤ (flat cs).length := by
    have := flat_noSeal hs
    rw [this]; omega
  obtain ⟨hl2, hcr2⟩ := splice_sound (splice1 (x := x) hs hj) hcr hn rfl hle
  refine Good.writeC (blk := (cs, T)) (blk' := (cs.set j x, T)) pre (by simpa using at_lt hb) hb hg hw rfl (by simp) hfr ⟨?_, ?_⟩
  · show (flat (cs.set j x)).length ≤ _
    rw [hl2]; simpa using hsz
  · show CR P I μ w (cs.set j x) _
    rw [hl2]
    have e : (ar.setIfInBounds j v).toList.take (flat cs).length = (ar.toList.take (flat cs).length).take j ++ [v] ++ (ar.toList.take (flat cs).length).drop (j + 1) := by
      rw [Array.toList_setIfInBounds, List.take_set, List.set_eq_take_append_cons_drop, if_pos (by simp only [List.length_take, Array.length_toList]; simp only at hsz; omega)]
      simp
    rw [e]; exact hcr2
end

end Go.Proofs.YtjgancippgpdhaaGreatDoor

namespace Go.Proofs.YtjgancippgpdhaaGreatDoor
open Go.RowKit
set_option maxRecDepth 100000

abbrev fDo : Nat := 97

theorem Holds.frozen {P : Program} {I : Nat → Prop} {μ : Mu} {w : World} {b g j : Nat} {blk : Blk} (h : Holds P I μ w b blk) (hg : μ b = some g) (hj : j < (flat blk.1).length) : w.frozen? ⟨g, j, none⟩ = false := by
  obtain ⟨g', cs, fr, h1, _, h2, h3, h4, _⟩ := h
  rw [hg] at h1; cases h1
  unfold World.frozen?
  rw [h2]
  obtain ⟨lo, hi⟩ := fr
  simp only at h3 ⊢
  rcases h3 with h3 | h3
  · by_cases h : lo ≤ j
    · have : ¬ j < hi := by omega
      simp [this]
    · simp [h]
  · have : ¬ lo ≤ j := by omega
    simp [this]
theorem Pre.top {P : Program} {I : Nat → Prop} {μ : Mu} {w : World} {hp : Hp} {acc : List Nat} {a b : Nat} (h : Pre P I μ w hp acc a) (hab : b ≤ a) : Pre P I μ w hp acc b := ⟨h.ilt, h.holds, h.inj, fun c h1 h2 => h.fresh c h1 (by omega)⟩
theorem Holds.int {P : Program} {I : Nat → Prop} {μ : Mu} {w : World} {b g j : Nat} {blk : Blk} {k : IntKind} {n : Int} (h : Holds P I μ w b blk) (hg : μ b = some g) (hj : (flat blk.1)[j]? = some (.int k n)) : w.cell? ⟨g, j, none⟩ = some (.int k n) := by
  obtain ⟨u, h1, h2⟩ := h.cell hg hj
  simp only [V.R] at h2
  rw [h1, h2]

theorem FnOK.once {rest0 rest2 : List V} {T : TypeId} {hp hp2 : Hp} {wr : List Nat} (hs0 : hasSeal rest0 = false) (hs2 : hasSeal rest2 = false)
    (h : FnOK Tryz.prog fBuildOnce [.ptr 0 0] (some (.int .u32 0 :: .int .i32 1 :: rest0, T) :: hp) ⟨.tup [], some (.int .u32 0 :: .int .i32 1 :: rest2, T) :: hp2, wr⟩) :
    FnOK Tryz.prog fDo [.ptr 0 0, .box (.bound fBuildOnce 1) [.ptr 0 0]] (some (.int .u32 0 :: .int .i32 0 :: rest0, T) :: hp) ⟨.tup [], some (.int .u32 1 :: .int .i32 0 :: rest2, T) :: hp2, 0 :: wr⟩ := by
  have hs0' : ∀ a b : Int, hasSeal (.int .u32 a :: .int .i32 b :: rest0) = false := fun a b => by simp [hasSeal, hs0]
  have hs2' : ∀ a b : Int, hasSeal (.int .u32 a :: .int .i32 b :: rest2) = false := fun a b => by simp [hasSeal, hs2]
  obtain ⟨ht, hm⟩ := h
  have hlen : hp.length ≤ hp2.length := by simpa using ht.len
  refine ⟨⟨by simpa using hlen, fun b hb hn => ?_, fun b hb => ?_, fun b hb ha => ?_⟩, fun I w μ vals hv pre hdom => ?_⟩
  · simp only [List.mem_cons, not_or] at hn
    have := ht.frame b hb hn.2
    rcases b with _ | b
    · exact absurd rfl hn.1
    · exact this
  · rcases List.mem_cons.1 hb with rfl | hb
    · simp
    · exact ht.wrb b hb
  · rcases b with _ | b
    · exact ⟨_, rfl⟩
    · exact ht.alive (b + 1) hb ha
  simp only [V.RL, V.R] at hv
  obtain ⟨_, _, hvals, ⟨g, hg, rfl⟩, _, _, rfl, ⟨vs, rfl, _, _, hvs, ⟨g', hg', rfl⟩, rfl⟩, rfl⟩ := hv
  rw [hg] at hg'; cases hg'
  obtain rfl : vs = #[.pointer (some ⟨g, 0, none⟩)] := by cases vs; simp_all
  have hvals : vals = #[.pointer (some ⟨g, 0, none⟩), .func (.func fBuildOnce) #[.pointer (some ⟨g, 0, none⟩)] #[]] := by
    cases vals
    simp only at hvals
    rw [hvals]
    simp [BK.mk]
  subst hvals
  have pre0 := pre.top (b := (some (.int .u32 0 :: .int .i32 0 :: rest0, T) :: hp : Hp).length) (by simpa using hlen)
  have H0 := pre0.holds 0 (by simp) _ rfl
  have e0 : ∀ (a b : Int) (r : List V), hasSeal r = false → flat (.int .u32 a :: .int .i32 b :: r) = .int .u32 a :: .int .i32 b :: r := fun a b r hr => flat_noSeal (by simp [hasSeal, hr])
  have G1 := Good.setCell (j := 1) (x := .int .i32 1) (v := .int .i32 1) pre0 rfl (hs0' 0 0) hg (by simp) (by simp [V.R]) rfl
  simp only [List.set_cons_zero, List.set_cons_succ] at G1
  have pre1 := G1.pre (by simp) pre0 hdom (hp2.length + 1)
  have hcall := hm I _ μ #[.pointer (some ⟨g, 0, none⟩)] (by simp only [V.RL, V.R]; exact ⟨_, [], rfl, ⟨g, hg, rfl⟩, rfl⟩) pre1 (fun b k hk => hdom b k hk)
  refine (do_first g 0 (.pointer (some ⟨g, 0, none⟩)) (fun w2 => ∃ μ2 I2, Good Tryz.prog I I2 μ μ2 (w.setCell ⟨g, 1, none⟩ (.int .i32 1)) w2 (some (.int .u32 0 :: .int .i32 1 :: rest0, T) :: hp) (some (.int .u32 0 :: .int .i32 1 :: rest2, T) :: hp2) (List.range (some (.int .u32 0 :: .int .i32 1 :: rest0, T) :: hp : Hp).length) wr) w
    (H0.int hg (by rw [e0 0 0 _ hs0]; rfl)) (H0.int hg (by rw [e0 0 0 _ hs0]; rfl)) (H0.frozen hg (by rw [e0 0 0 _ hs0]; simp)) ?_ ?_).mono ?_
  · refine hcall.mono ?_
    rintro e w' ⟨val, μ', I', rfl, hR, G⟩
    simp only [V.R, V.RL] at hR
    obtain ⟨vs, rfl, hvs⟩ := hR
    obtain rfl : vs = #[] := by cases vs; simp_all
    exact ⟨rfl, μ', I', G⟩
  · rintro w2 ⟨μ2, I2, G2⟩
    have H2 := G2.holds 0 (.inl (by simp)) _ rfl
    have hg2 := G2.le 0 g hg
    exact ⟨H2.int hg2 (by rw [e0 0 1 _ hs2]; rfl), H2.int hg2 (by rw [e0 0 1 _ hs2]; rfl), H2.frozen hg2 (by rw [e0 0 1 _ hs2]; simp), H2.frozen hg2 (by rw [e0 0 1 _ hs2]; simp)⟩
  · rintro e w' ⟨rfl, w2, ⟨μ2, I2, G2⟩, rfl⟩
    have hg2 := G2.le 0 g hg
    have wrb : ∀ b ∈ wr, b < hp.length + 1 := fun b hb => by simpa using ht.wrb b hb
    have G12 := G1.trans (wr := 0 :: wr) G2 (by simp) (by simpa using hlen) (fun b hb => by simpa using wrb b hb) (fun b hb ha => by
      rcases b with _ | b
      · exact ⟨_, rfl⟩
      · exact ha) (fun b hb ha => ht.alive b hb ha) (fun b hb => by simp at hb; simp [hb]) (fun b hb => by simp [hb])
    have dom2 : ∀ b k, μ2 b = some k → b < hp2.length + 1 := fun b k hk => by
      rcases G12.dom b k hk with h | h
      · have := hdom b k h; simp at this; omega
      · simpa using h.2
    have pre2 := G12.pre (by simpa using hlen) pre0 hdom (hp2.length + 1)
    have G3 := Good.drew pre2
    have G4 := Good.setCell (j := 0) (x := .int .u32 1) (v := .int .u32 1) (G3.pre (Nat.le_refl _) pre2 dom2 (hp2.length + 1)) rfl (hs2' 0 1) hg2 (by simp) (by simp [V.R]) rfl
    have G34 := G3.trans (wr := [0]) G4 (Nat.le_refl _) (by simp) (fun b hb => by simp at hb; simp [hb]) (fun b hb ha => ha) (fun b hb ha => by
      rcases b with _ | b
      · exact ⟨_, rfl⟩
      · exact ha) (fun b hb => by simp at hb) (fun b hb => hb)
    simp only [List.set_cons_zero] at G34 G4
    have pre4 := G34.pre (by simp) pre2 dom2 (hp2.length + 1)
    have G5 := Good.setCell (j := 1) (x := .int .i32 0) (v := .int .i32 0) pre4 rfl (hs2' 1 1) hg2 (by simp) (by simp [V.R]) rfl
    simp only [List.set_cons_zero, List.set_cons_succ] at G5
    have G345 := G34.trans (wr := [0]) G5 (by simp) (by simp) (fun b hb => by simp at hb; simp [hb]) (fun b hb ha => by
      rcases b with _ | b
      · exact ⟨_, rfl⟩
      · exact ha) (fun b hb ha => by
      rcases b with _ | b
      · exact ⟨_, rfl⟩
      · exact ha) (fun b hb => hb) (fun b hb => hb)
    have GG := G12.trans (wr := 0 :: wr) G345 (by simpa using hlen) (by simp) (fun b hb => by simp at hb; simp [hb]) (fun b hb ha => by
      rcases b with _ | b
      · exact ⟨_, rfl⟩
      · exact ht.alive (b + 1) hb ha) (fun b hb ha => by
      rcases b with _ | b
      · exact ⟨_, rfl⟩
      · exact ha) (fun b hb => hb) (fun b hb => by simp at hb; simp [hb])
    exact ⟨.tuple #[], μ2, I2, rfl, by simp [V.R, V.RL], GG⟩

end Go.Proofs.YtjgancippgpdhaaGreatDoor

namespace Go.Proofs.YtjgancippgpdhaaGreatDoor
open Go.RowKit
set_option maxRecDepth 100000

def noExt : CallF := fun _ _ _ => none
def noFz : FuncId → Bool := fun _ => false
theorem noExt_ok : CallOK Tryz.prog noExt := fun _ _ _ _ h => by cases h
theorem noExt_bodied : Bodied Tryz.prog noExt := fun _ _ _ _ h => by cases h
section
variable {β : Type _}
def normN (m : Nat) (k : Nat → β) : β := match m with
  | 0 => k 0
  | p + 1 => k (p + 1)
def normI (n : Int) (k : Int → β) : β := match n with
  | .ofNat m => normN m fun m => k (.ofNat m)
  | .negSucc m => normN m fun m => k (.negSucc m)
def norSt (l : List UInt8) (k : List UInt8 → β) : β := match l with
  | [] => k []
  | x :: t => norSt t fun t => k (x :: t)
def normB (b : Bool) (k : Bool → β) : β := match b with
  | true => k true
  | false => k false
mutual
def normV : V → (V → β) → β
  | .int a n, k => normI n fun n => k (.int a n)
  | .bool b, k => normB b fun b => k (.bool b)
  | .str s, k => norSt s fun s => k (.str s)
  | .nilp, k => k .nilp
  | .ptr b o, k => normN b fun b => normN o fun o => k (.ptr b o)
  | .sl b o n f, k => normN b fun b => normN o fun o => normN n fun n => normB f fun f => k (.sl b o n f)
  | .dsl n f cs, k => normN n fun n => normB f fun f => normVL cs fun cs => k (.dsl n f cs)
  | .dptr cs, k => normVL cs fun cs => k (.dptr cs)
  | .sld cs, k => normVL cs fun cs => k (.sld cs)
  | .agg cs, k => normVL cs fun cs => k (.agg cs)
  | .tup cs, k => normVL cs fun cs => k (.tup cs)
  | .fn f cs, k => normVL cs fun cs => k (.fn f cs)
  | .box f cs, k => normVL cs fun cs => k (.box f cs)
  | .nilf, k => k .nilf
  | .lit u, k => k (.lit u)
  | .junk, k => k .junk
def normVL : List V → (List V → β) → β
  | [], k => k []
  | x :: t, k => normV x fun x => normVL t fun t => k (x :: t)
end
def normH (hp : Hp) (k : Hp → β) : β := match hp with
  | [] => k []
  | none :: t => normH t fun t => k (none :: t)
  | some (cs, ty) :: t => normVL cs fun cs => normN ty fun ty => normH t fun t => k (some (cs, ty) :: t)
def normW (l : List Nat) (k : List Nat → β) : β := match l with
  | [] => k []
  | x :: t => normN x fun x => normW t fun t => k (x :: t)
def normR (r : Ret) (k : Ret → β) : β := normV r.v fun v => normH r.hp fun h => normW r.wr fun w => k ⟨v, h, w⟩
theorem normN_eq (m : Nat) (k : Nat → β) : normN m k = k m := by cases m <;> rfl
theorem normI_eq (n : Int) (k : Int → β) : normI n k = k n := by cases n <;> simp only [normI, normN_eq]
theorem norSt_eq : ∀ (l : List UInt8) (k : List UInt8 → β), norSt l k = k l
  | [], _ => rfl
  | x :: t, k => by unfold norSt; rw [norSt_eq t]
theorem normB_eq (b : Bool) (k : Bool → β) : normB b k = k b := by cases b <;> rfl
mutual
theorem normV_eq : ∀ (v : V) (k : V → β), normV v k = k v
  | .int a n, k => by simp only [normV, normI_eq]
  | .bool b, k => by simp only [normV, normB_eq]
  | .str s, k => by simp only [normV, norSt_eq]
  | .nilp, k => rfl
  | .ptr b o, k => by simp only [normV, normN_eq]
  | .sl b o n f, k => by simp only [normV, normN_eq, normB_eq]
  | .dsl n f cs, k => by simp only [normV, normN_eq, normB_eq, normVL_eq cs]
  | .dptr cs, k => by simp only [normV, normVL_eq cs]
  | .sld cs, k => by simp only [normV, normVL_eq cs]
  | .agg cs, k => by simp only [normV, normVL_eq cs]
  | .tup cs, k => by simp only [normV, normVL_eq cs]
  | .fn f cs, k => by simp only [normV, normVL_eq cs]
  | .box f cs, k => by simp only [normV, normVL_eq cs]
  | .nilf, k => rfl
  | .lit u, k => rfl
  | .junk, k => rfl
theorem normVL_eq : ∀ (l : List V) (k : List V → β), normVL l k = k l
  | [], k => rfl
  | x :: t, k => by simp only [normVL, normV_eq x, normVL_eq t]
end
theorem normH_eq : ∀ (hp : Hp) (k : Hp → β), normH hp k = k hp
  | [], _ => rfl
  | none :: t, k => by unfold normH; rw [normH_eq t]
  | some (cs, ty) :: t, k => by unfold normH; rw [normVL_eq, normN_eq, normH_eq t]
theorem normW_eq : ∀ (l : List Nat) (k : List Nat → β), normW l k = k l
  | [], _ => rfl
  | x :: t, k => by unfold normW; rw [normN_eq, normW_eq t]
theorem normR_eq (r : Ret) (k : Ret → β) : normR r k = k r := by unfold normR; rw [normV_eq, normH_eq, normW_eq]
end

/-- The result, reckoned whole. -/
noncomputable def deepN (f : FuncId) (vs : List V) (hp : Hp) : Option Ret := match deepC Tryz.prog noExt 1000 noFz 60 f vs hp with
  | some r => normR r fun r => some r
  | none => none
theorem deepN_ok {f : FuncId} {vs : List V} {hp : Hp} {r : Ret} (h : deepN f vs hp = some r) : FnOK Tryz.prog f vs hp r := by
  unfold deepN at h
  split at h
  · rename_i r' hr; rw [normR_eq] at h; cases h; exact (deepC_ok follows named noExt_bodied noExt_ok _).1 _ _ _ _ hr
  · cases h

end Go.Proofs.YtjgancippgpdhaaGreatDoor

namespace Go.Proofs.YtjgancippgpdhaaGreatDoor
open Go.RowKit
set_option maxRecDepth 100000

theorem FnOK.dead {P : Program} {f : FuncId} {vs : List V} {hp : Hp} {r : Ret} (h : FnOK P f vs hp r) (hv : V.refs r.v = []) :
    FnOK P f vs hp ⟨r.v, List.replicate hp.length none, List.range hp.length⟩ := by
  obtain ⟨ht, hmain⟩ := h
  have hnone : ∀ b < hp.length, (List.replicate hp.length (none : Option Blk))[b]? = some none := fun b hb => by rw [List.getElem?_replicate, if_pos hb]
  have hno : ∀ b blk, (List.replicate hp.length (none : Option Blk))[b]? = some (some blk) → False := fun b blk h => by
    rw [List.getElem?_replicate] at h; split at h <;> cases h
  refine ⟨⟨by simp, fun b hb hn => absurd (List.mem_range.2 hb) hn, fun b hb => List.mem_range.1 hb, fun b hb ⟨blk, hal⟩ => (hno b blk hal).elim⟩, fun I w μ vals hvals pre hdom => ?_⟩
  have pre' : Pre P I μ w hp (List.range hp.length) r.hp.length := ⟨pre.ilt, pre.holds, pre.inj, fun b h1 _ => by
    cases hb : μ b with
    | none => rfl
    | some g => have := hdom b g hb; omega⟩
  refine (hmain I w μ vals hvals pre' hdom).mono fun e w' ⟨val, μ', I', he, hR, G⟩ => ⟨val, μ, I', he, ?_, ?_⟩
  · obtain ⟨_, _, e2, h2, _⟩ := (RL_nomu [r.v] [val] (by simp [V.refsL, hv]) ⟨val, [], rfl, hR, rfl⟩ : V.RL P I' noMu w' [r.v] [val])
    cases e2
    exact h2.keep (.refl w' (fun _ => False)) (.refl _) (fun b g hb => by cases hb)
  · refine ⟨G.isub, fun k hk => ?_, G.evo.mono fun k ⟨b, hb, hg⟩ => ⟨b, List.mem_range.2 (ht.wrb b hb), hg⟩, .refl _, fun b g h => .inl h, fun b hb blk h => (hno b blk h).elim, fun b hb blk h => (hno b blk h).elim, fun b c b1 b2 g hne hb hc h1 => (hno b b1 h1).elim⟩
    rcases G.igrow k hk with h | h | ⟨c, h1, h2, h3, _⟩
    · exact .inl h
    · exact .inr (.inl h)
    · exact .inr (.inr ⟨c, List.mem_range.2 (ht.wrb c h1), h2, h3, hnone c (ht.wrb c h1)⟩)

theorem dead_TL {E : Env} (hm : E.P.follows .mixedOrders = true) (hn : Named E.P) {mode : Nat} {f : FuncId} {vs : List V} {hp : Hp} {v : V} {t : T Ret} (e : fnT E mode f vs hp = t) (hv : V.refs v = []) (h : t.WP (·.v = v)) : FnOK E.P f vs hp ⟨v, List.replicate hp.length none, List.range hp.length⟩ := by
  subst e
  obtain ⟨r', h1, rfl⟩ := fnT_ok hm hn h
  exact h1.dead hv

end Go.Proofs.YtjgancippgpdhaaGreatDoor

/-
  Layouts of lists: general laws; numbers.
-/
import Derived.Test.YtlimecojoiimaaaGreatUs
namespace Go.Proofs.YtlimecojoiimaaaGreat
open Go.RowKit

theorem named : Named Tryz.prog := named_of (by kernel_rfl)
theorem follows : Tryz.prog.follows .mixedOrders = true := by kernel_rfl
def mkTm (n : Nat) (l : List (Nat × V)) : Tm := l.foldl (fun t p => t.put p.1 p.2) ⟨n, Tr.mk0 11⟩

/-- A layout: elements of s cells, that can be read back. -/
structure Lay {α : Type} (enc : α → List V) (s : Nat) : Prop where
  pos : 0 < s
  len : ∀ x, (enc x).length = s
  inj1 : ∀ x y, enc x = enc y → x = y
  one : ∀ x, (enc x).all V.one = true

section
variable {α : Type} {enc : α → List V} {s : Nat}

theorem encs_nil : encs enc [] = [] := rfl
theorem encs_cons (x : α) (L : List α) : encs enc (x :: L) = enc x ++ encs enc L := rfl
theorem encs_append (L M : List α) : encs enc (L ++ M) = encs enc L ++ encs enc M := by simp [encs]
theorem encs_one (x : α) : encs enc [x] = enc x := by simp [encs]
theorem encs_snoc (L : List α) (x : α) : encs enc (L ++ [x]) = encs enc L ++ enc x := by rw [encs_append, encs_one]

theorem Lay.inj (h : Lay enc s) : ∀ L M : List α, encs enc L = encs enc M → L = M := by
  intro L
  induction L with
  | nil =>
    intro M hM
    cases M with
    | nil => rfl
    | cons y M =>
      have h1 := h.len y
      have h2 := h.pos
      rw [encs_nil, encs_cons] at hM
      have := congrArg List.length hM
      rw [List.length_append] at this
      rw [h1, List.length_nil] at this; omega
  | cons x L ih =>
    intro M hM
    cases M with
    | nil =>
      have h1 := h.len x
      have h2 := h.pos
      rw [encs_nil, encs_cons] at hM
      have := congrArg List.length hM
      rw [List.length_append] at this
      rw [h1, List.length_nil] at this; omega
    | cons y M =>
      rw [encs_cons, encs_cons] at hM
      obtain ⟨e1, e2⟩ := List.append_inj hM (by rw [h.len, h.len])
      rw [h.inj1 _ _ e1, ih M e2]
theorem Lay.decL (h : Lay enc s) (L : List α) : decL enc (encs enc L) = L := by
  have he : ∃ M, encs enc M = encs enc L := ⟨L, rfl⟩
  unfold Go.Proofs.YtlimecojoiimaaaGreat.decL
  rw [dif_pos he]
  exact h.inj _ _ he.choose_spec
theorem Lay.length (h : Lay enc s) (L : List α) : (encs enc L).length = L.length * s := by
  induction L with
  | nil => simp [encs]
  | cons x L ih => rw [encs_cons, List.length_append, h.len, ih, List.length_cons, Nat.add_mul, Nat.one_mul, Nat.add_comm]
theorem Lay.all (h : Lay enc s) (L : List α) : (encs enc L).all V.one = true := by
  induction L with
  | nil => rfl
  | cons x L ih => rw [encs_cons, List.all_append, h.one, ih]; rfl
theorem Lay.drop (h : Lay enc s) : ∀ (L : List α) (i : Nat), (encs enc L).drop (i * s) = encs enc (L.drop i)
  | L, 0 => by simp
  | [], i + 1 => by simp [encs]
  | x :: L, i + 1 => by
    rw [encs_cons, List.drop_succ_cons, ← h.drop L i, Nat.succ_mul, Nat.add_comm, ← List.drop_drop, List.drop_left' (h.len x)]
theorem Lay.take (h : Lay enc s) : ∀ (L : List α) (i : Nat), (encs enc L).take (i * s) = encs enc (L.take i)
  | L, 0 => by simp [encs]
  | [], i + 1 => by simp [encs]
  | x :: L, i + 1 => by
    rw [encs_cons, List.take_succ_cons, encs_cons, ← h.take L i, Nat.succ_mul, Nat.add_comm, List.take_append, h.len]
    rw [List.take_of_length_le (by rw [h.len]; omega), Nat.add_sub_cancel_left]
/-- An element is read. -/
theorem Lay.at (h : Lay enc s) (L : List α) (d : α) (i k : Nat) (hi : i < L.length) (hk : k = s) : ((encs enc L).drop (i * s)).take k = enc (L.getD i d) := by
  subst hk
  rw [h.drop, List.drop_eq_getElem_cons hi, encs_cons, List.take_left' (h.len _), List.getD_eq_getElem?_getD, List.getElem?_eq_getElem hi]
  rfl
theorem Lay.at' (h : Lay enc s) (L : List α) (d : α) (k : Int) (n : Nat) (hk : 0 ≤ k ∧ k < L.length) (hn : n = s) : ((encs enc L).drop (k.toNat * s)).take n = enc (L.getD k.toNat d) := h.at L d k.toNat n (by omega) hn
theorem getD_nat (L : List α) (d : α) (k : Nat) : L.getD ((k : Int).toNat) d = L.getD k d := by rw [Int.toNat_natCast]
end

theorem layByte : Lay encByte 1 :=
  ⟨by omega, fun _ => rfl, fun x y h => by simp only [encByte, List.cons.injEq, V.int.injEq, true_and, and_true] at h; exact UInt8.toNat_inj.1 (by omega), fun _ => rfl⟩
theorem byts_encs (l : List UInt8) : byts l = encs encByte l := by
  induction l with
  | nil => rfl
  | cons b l ih => rw [encs_cons, ← ih]; rfl
theorem map_encs (l : List UInt8) : (l.map fun b => V.int .u8 (b.toNat : Nat)) = encs encByte l := byts_encs l
def encStr (s : List UInt8) : List V := [.str s]
theorem layStr : Lay encStr 1 := ⟨by omega, fun _ => rfl, fun x y h => by simpa [encStr] using h, fun _ => rfl⟩
def encInt (n : Int) : List V := [.int .i64 n]
theorem layInt : Lay encInt 1 := ⟨by omega, fun _ => rfl, fun x y h => by simpa [encInt] using h, fun _ => rfl⟩
/-- A slice that is only read. -/
abbrev sls {α : Type} (enc : α → List V) (L : List α) : V := .dsl L.length false (encs enc L)

theorem wrap_id {n : Int} (h : -9223372036854775808 ≤ n ∧ n ≤ 9223372036854775807) : IntKind.i64.wrap n = n := IntWalk.i64_in _ (by omega)
theorem wrap_nat {n : Nat} (h : n ≤ 9223372036854775807) : IntKind.i64.wrap (n : Int) = n := IntWalk.i64_in _ (by omega)
theorem wrap_succ {n : Nat} (h : n < 9223372036854775807) : IntKind.i64.wrap ((n : Int) + 1) = ((n + 1 : Nat) : Int) := by rw [IntWalk.i64_in _ (by omega)]; simp

end Go.Proofs.YtlimecojoiimaaaGreat

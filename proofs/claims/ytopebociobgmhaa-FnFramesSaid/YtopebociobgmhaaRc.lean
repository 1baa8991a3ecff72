/-
  Values of the document, as they lie in memory.
-/
import Derived.Test.YtopebociobgmhaaUu
namespace Go.Proofs.Ytopebociobgmhaa
open Go.RowKit

/-- A value: kind, number, text, keys, items. -/
inductive J where
  | mk (kind n : Int) (t : List UInt8) (keys : List (List UInt8)) (items : List J)
namespace J
def kind : J → Int | mk k _ _ _ _ => k
def n : J → Int | mk _ n _ _ _ => n
def t : J → List UInt8 | mk _ _ t _ _ => t
def keys : J → List (List UInt8) | mk _ _ _ ks _ => ks
def items : J → List J | mk _ _ _ _ its => its
theorem eta (j : J) : mk j.kind j.n j.t j.keys j.items = j := by cases j; rfl
end J
def J.zero : J := .mk 0 0 [] [] []
instance : Inhabited J := ⟨.zero⟩

mutual
def encJ : J → List V
  | .mk k n t ks its => [.int .i64 k, .int .i64 n, .str t, .dsl ks.length false (encs encStr ks), .dsl its.length false (encJs its)]
def encJs : List J → List V
  | [] => []
  | j :: js => encJ j ++ encJs js
end
theorem encJs_encs : ∀ js : List J, encJs js = encs encJ js
  | [] => by simp only [encJs]; rfl
  | j :: js => by simp only [encJs, encs_cons, encJs_encs js]
/-- How a value reads. -/
def vwJ (j : J) : List V := [.int .i64 j.kind, .int .i64 j.n, .str j.t, sls encStr j.keys, sls encJ j.items]
theorem encJ_vw (j : J) : encJ j = vwJ j := by
  cases j
  simp only [encJ, vwJ, J.kind, J.n, J.t, J.keys, J.items, sls, encJs_encs]
theorem encJ_len (j : J) : (encJ j).length = 5 := by rw [encJ_vw]; rfl

mutual
theorem encJ_inj : ∀ x y : J, encJ x = encJ y → x = y
  | .mk k n t ks its, .mk k' n' t' ks' its', h => by
    simp only [encJ, List.cons.injEq, V.int.injEq, V.str.injEq, V.dsl.injEq, true_and, and_true] at h
    obtain ⟨h1, h2, h3, ⟨_, h4⟩, _, h5⟩ := h
    rw [h1, h2, h3, layStr.inj _ _ h4, encJs_inj its its' h5]
theorem encJs_inj : ∀ xs ys : List J, encJs xs = encJs ys → xs = ys
  | [], [], _ => rfl
  | [], y :: ys, h => by
    simp only [encJs] at h
    have h1 := congrArg List.length h
    have h2 := encJ_len y
    rw [List.length_append, List.length_nil] at h1; omega
  | x :: xs, [], h => by
    simp only [encJs] at h
    have h1 := congrArg List.length h
    have h2 := encJ_len x
    rw [List.length_append, List.length_nil] at h1; omega
  | x :: xs, y :: ys, h => by
    simp only [encJs] at h
    obtain ⟨e1, e2⟩ := List.append_inj h (by rw [encJ_len, encJ_len])
    rw [encJ_inj x y e1, encJs_inj xs ys e2]
end
theorem layJ : Lay encJ 5 := ⟨by omega, encJ_len, encJ_inj, fun j => by rw [encJ_vw]; rfl⟩

abbrev tJ : Nat := 64
noncomputable def vwA : Vw := fun t cs i =>
  bif Nat.beq t 5 then some (encByte ((decL encByte cs).getD i 0))
  else bif Nat.beq t 9 then some (encStr ((decL encStr cs).getD i []))
  else bif Nat.beq t 3 then some (encInt ((decL encInt cs).getD i 0))
  else bif Nat.beq t tJ then some (vwJ ((decL encJ cs).getD i J.zero))
  else none
theorem vwJ_at (L : List J) (k : Int) (hk : 0 ≤ k ∧ k < L.length) : ((encs encJ L).drop (k.toNat * 5)).take 5 = vwJ (L.getD k.toNat J.zero) := by
  rw [← encJ_vw]; exact layJ.at' L J.zero k 5 hk rfl
/-- A value out of its cells. -/
noncomputable def jOf (k n : Int) (t : List UInt8) (ks its : List V) : J := .mk k n t (decL encStr ks) (decL encJ its)
theorem jOf_vw (j : J) : jOf j.kind j.n j.t (encs encStr j.keys) (encs encJ j.items) = j := by
  unfold jOf; rw [layStr.decL, layJ.decL, J.eta]

end Go.Proofs.Ytopebociobgmhaa

/-
  Contracts of small functions.
-/
import Derived.Test.YtopebociobgmhaaA
namespace Go.Proofs.Ytopebociobgmhaa
open Go.RowKit

/-- A framer behind a pointer: the five cells of its block. -/
def FrAt (w : World) (g : Nat) (buf : ByteArray) (f : Fr.G) : Prop :=
  w.heap[g]? = some (.cells #[.string buf, .int .i64 f.depth, .bool f.quote, .bool f.skip, .bool f.closed] 29 (0, 0))

theorem FrAt.cell0 {w : World} {g : Nat} {buf : ByteArray} {f : Fr.G} (h : FrAt w g buf f) : w.cell? ⟨g, 0, none⟩ = some (.string buf) := by unfold FrAt at h; simp [World.cell?, h]
theorem FrAt.cell1 {w : World} {g : Nat} {buf : ByteArray} {f : Fr.G} (h : FrAt w g buf f) : w.cell? ⟨g, 1, none⟩ = some (.int .i64 f.depth) := by unfold FrAt at h; simp [World.cell?, h]
theorem FrAt.cell2 {w : World} {g : Nat} {buf : ByteArray} {f : Fr.G} (h : FrAt w g buf f) : w.cell? ⟨g, 2, none⟩ = some (.bool f.quote) := by unfold FrAt at h; simp [World.cell?, h]
theorem FrAt.cell3 {w : World} {g : Nat} {buf : ByteArray} {f : Fr.G} (h : FrAt w g buf f) : w.cell? ⟨g, 3, none⟩ = some (.bool f.skip) := by unfold FrAt at h; simp [World.cell?, h]
theorem FrAt.cell4 {w : World} {g : Nat} {buf : ByteArray} {f : Fr.G} (h : FrAt w g buf f) : w.cell? ⟨g, 4, none⟩ = some (.bool f.closed) := by unfold FrAt at h; simp [World.cell?, h]
theorem FrAt.free {w : World} {g : Nat} {buf : ByteArray} {f : Fr.G} (h : FrAt w g buf f) (i : Nat) : w.frozen? ⟨g, i, none⟩ = false := by unfold FrAt at h; simp [World.frozen?, h]
theorem FrAt.set0 {w : World} {g : Nat} {buf : ByteArray} {f : Fr.G} (h : FrAt w g buf f) (x : ByteArray) : FrAt (w.setCell ⟨g, 0, none⟩ (.string x)) g x f := by
  unfold FrAt at h ⊢; simp [World.setCell, Array.getElem?_modify, h]
theorem FrAt.set1 {w : World} {g : Nat} {buf : ByteArray} {f : Fr.G} (h : FrAt w g buf f) (x : Int) : FrAt (w.setCell ⟨g, 1, none⟩ (.int .i64 x)) g buf { f with depth := x } := by
  unfold FrAt at h ⊢; simp [World.setCell, Array.getElem?_modify, h]
theorem FrAt.set2 {w : World} {g : Nat} {buf : ByteArray} {f : Fr.G} (h : FrAt w g buf f) (x : Bool) : FrAt (w.setCell ⟨g, 2, none⟩ (.bool x)) g buf { f with quote := x } := by
  unfold FrAt at h ⊢; simp [World.setCell, Array.getElem?_modify, h]
theorem FrAt.set3 {w : World} {g : Nat} {buf : ByteArray} {f : Fr.G} (h : FrAt w g buf f) (x : Bool) : FrAt (w.setCell ⟨g, 3, none⟩ (.bool x)) g buf { f with skip := x } := by
  unfold FrAt at h ⊢; simp [World.setCell, Array.getElem?_modify, h]
theorem FrAt.set4 {w : World} {g : Nat} {buf : ByteArray} {f : Fr.G} (h : FrAt w g buf f) (x : Bool) : FrAt (w.setCell ⟨g, 4, none⟩ (.bool x)) g buf { f with closed := x } := by
  unfold FrAt at h ⊢; simp [World.setCell, Array.getElem?_modify, h]

theorem FrAt.all {w : World} {g : Nat} {buf : ByteArray} {f : Fr.G} (h : FrAt w g buf f) :
    w.cell? ⟨g, 0, none⟩ = some (.string buf) ∧ w.cell? ⟨g, 1, none⟩ = some (.int .i64 f.depth) ∧ w.cell? ⟨g, 2, none⟩ = some (.bool f.quote) ∧ w.cell? ⟨g, 3, none⟩ = some (.bool f.skip) ∧
    w.cell? ⟨g, 4, none⟩ = some (.bool f.closed) ∧ w.frozen? ⟨g, 0, none⟩ = false ∧ w.frozen? ⟨g, 1, none⟩ = false ∧ w.frozen? ⟨g, 2, none⟩ = false ∧ w.frozen? ⟨g, 3, none⟩ = false ∧ w.frozen? ⟨g, 4, none⟩ = false :=
  ⟨h.cell0, h.cell1, h.cell2, h.cell3, h.cell4, h.free 0, h.free 1, h.free 2, h.free 3, h.free 4⟩

/-- w' is w but for what lies in block g. -/
def Only (g : Nat) (w w' : World) : Prop := w.grownBy w' (some g) ∧ w'.heap.size = w.heap.size
theorem Only.refl (g : Nat) (w : World) : Only g w w := ⟨⟨rfl, rfl, rfl, Nat.le_refl _, fun _ _ _ => rfl⟩, rfl⟩
theorem Only.set {g : Nat} {w w' : World} (h : Only g w w') (i : Nat) (v : Value) : Only g w (w'.setCell ⟨g, i, none⟩ v) := by
  refine ⟨⟨h.1.os, h.1.tape, h.1.output, ?_, fun k hk hne => ?_⟩, ?_⟩
  · simp [World.setCell]; exact h.1.size
  · rw [Below.heap_setCell _ _ _ _ (by simpa using hne)]; exact h.1.block k hk hne
  · simp [World.setCell]; exact h.2

def InTextPost (g : Nat) (buf : ByteArray) (f : Fr.G) (b : Int) (long : Bool) (w : World) (e : Ending) (w' : World) : Prop :=
  e = .returned (.bool (Fr.inText f b long).2) ∧ FrAt w' g buf (Fr.inText f b long).1 ∧ Only g w w'

theorem inText_close {g : Nat} {buf : ByteArray} {f f' : Fr.G} {b : Int} {long r : Bool} {w w' : World} (h1 : Fr.inText f b long = (f', r)) (h2 : FrAt w' g buf f') (h3 : Only g w w') :
    InTextPost g buf f b long w (.returned (.bool r)) w' := by
  unfold InTextPost; rw [h1]; exact ⟨rfl, h2, h3⟩

set_option maxHeartbeats 400000 in
theorem inText_any (g : Nat) (buf : ByteArray) (d : Int) (q s long : Bool) (b : Int) (w : World) (hd0 : 0 ≤ d) (hd : d ≤ 12)
   (h : FrAt w g buf ⟨d, q, s, false⟩) :
    Calls Try.prog 36 #[.pointer (some ⟨g, 0, none⟩), .int .u8 b, .bool long] w (InTextPost g buf ⟨d, q, s, false⟩ b long w) := by
  have h1 := h.cell1
  have h2 := h.cell2
  have h3 := h.cell3
  have h4 := h.cell4
  have f1 := h.free 1
  have f2 := h.free 2
  have f3 := h.free 3
  have f4 := h.free 4
  have H := Lib.hid h
  clear h
  cases long
  · cases s
    · cases q
      · cases e34 : (b == 34)
        · cases e1 : (b == 123)
          · cases e2 : (b == 91)
            · cases e3 : (b == 125)
              · cases e4 : (b == 93)
                · go_enter Try.func36, Try.ntmps36; go_wp2; go_ret
                  exact inText_close (by simp [Fr.inText, *]) H.out (Only.refl _ _)
                · go_enter Try.func36, Try.ntmps36; go_wp2; go_ret
                  exact inText_close (by simp [Fr.inText, *]) (H.out.set1 _) ((Only.refl _ _).set _ _)
              · go_enter Try.func36, Try.ntmps36; go_wp2; go_ret
                exact inText_close (by simp [Fr.inText, *]) (H.out.set1 _) ((Only.refl _ _).set _ _)
            · cases e5 : decide (12 < d + 1)
              · go_enter Try.func36, Try.ntmps36; go_wp2; go_ret
                exact inText_close (by simp [Fr.inText, *]) ((H.out.set1 _).set4 _) (((Only.refl _ _).set _ _).set _ _)
              · go_enter Try.func36, Try.ntmps36; go_wp2; go_ret
                exact inText_close (by simp [Fr.inText, *]) ((H.out.set1 _).set4 _) (((Only.refl _ _).set _ _).set _ _)
          · cases e5 : decide (12 < d + 1)
            · go_enter Try.func36, Try.ntmps36; go_wp2; go_ret
              exact inText_close (by simp [Fr.inText, *]) ((H.out.set1 _).set4 _) (((Only.refl _ _).set _ _).set _ _)
            · go_enter Try.func36, Try.ntmps36; go_wp2; go_ret
              exact inText_close (by simp [Fr.inText, *]) ((H.out.set1 _).set4 _) (((Only.refl _ _).set _ _).set _ _)
        · go_enter Try.func36, Try.ntmps36; go_wp2; go_ret
          exact inText_close (by simp [Fr.inText, *]) (H.out.set2 _) ((Only.refl _ _).set _ _)
      · go_enter Try.func36, Try.ntmps36
        go_wp2
        go_ret
        exact inText_close (by simp [Fr.inText]) ((H.out.set3 _).set2 _) (((Only.refl _ _).set _ _).set _ _)
    · go_enter Try.func36, Try.ntmps36
      go_wp2
      go_ret
      exact inText_close (by simp [Fr.inText]) (H.out.set3 _) ((Only.refl _ _).set _ _)
  · go_enter Try.func36, Try.ntmps36
    go_wp2
    go_ret
    exact inText_close (by simp [Fr.inText]) (H.out.set4 _) ((Only.refl _ _).set _ _)

end Go.Proofs.Ytopebociobgmhaa

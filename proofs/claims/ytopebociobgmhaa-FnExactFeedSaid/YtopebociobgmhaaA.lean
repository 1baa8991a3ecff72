/-
  Contracts of small functions.
-/
import Derived.Test.YtopebociobgmhaaBase
import Derived.Test.YtopebociobgmhaaFrPure
namespace Go.Proofs.Ytopebociobgmhaa
open Go.RowKit

set_option maxHeartbeats 400000 in
theorem isText_any (s : ByteArray) (w : World) :
    Calls Try.prog 28 #[.string s] w fun e w' => e = .returned (.bool (decide ((s.size : Int) ≤ 65536))) ∧ w = w' := by
  go_enter Try.func28, Try.ntmps28
  go_wp2
  go_ret
  exact ⟨rfl, rfl⟩

set_option maxHeartbeats 400000 in
theorem isBlank_any (b : Int) (w : World) :
    Calls Try.prog 35 #[.int .u8 b] w fun e w' => e = .returned (.bool (Fr.blank b)) ∧ w = w' := by
  go_enter Try.func35, Try.ntmps35
  go_wp2
  all_goals go_ret
  all_goals (subst_vars; simp [Fr.blank, *])

theorem el_bytes : Elem Try.prog 42 5 1 1 := by
  have h : (Try.prog.info? 5).map (fun i => (i.zero, i.size, i.bytes)) = some (some (.int .u8 0), 1, 1) := by kernel_rfl
  obtain ⟨i0, hi, hz0, hz1, hz2⟩ := info_parts h
  exact ⟨i0, _, Try.underlying42, hi, hz0, hz1, hz2, rfl, by omega⟩

theorem el_texts : Elem Try.prog 32 9 1 16 := by
  have h : (Try.prog.info? 9).map (fun i => (i.zero, i.size, i.bytes)) = some (some (.string ByteArray.empty), 1, 16) := by kernel_rfl
  obtain ⟨i0, hi, hz0, hz1, hz2⟩ := info_parts h
  exact ⟨i0, _, Try.underlying32, hi, hz0, hz1, hz2, rfl, by omega⟩

theorem conv_bytes_string (w : World) (a : Option Addr) (n cap : Nat) (l : List UInt8) (hn : n = l.length) (hl : Lies w a (bv l)) :
    (convert 42 9 (.slice a n cap)).run Try.prog w = .ok (.string ⟨l.toArray⟩) w :=
  run_string_of w _ _ _ Try.underlying42 Try.underlying5 Try.underlying9 a n cap l hn hl

theorem conv_string_bytes (w : World) (s : ByteArray) (hlen : s.size ≤ maxLen) :
    ∃ v w', (convert 9 42 (.string s)).run Try.prog w = .ok v w' ∧ Own w' w.heap.size 5 1 v s.size (bv s.data.toList) ∧ w.grownBy w' none ∧ v.ownBlock = some w.heap.size :=
  run_bytes_of w _ _ _ Try.underlying9 Try.underlying42 Try.underlying5 s hlen

end Go.Proofs.Ytopebociobgmhaa

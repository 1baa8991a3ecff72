/-
  Contracts of the laws' helpers over framers; of the two FramerOK.
-/
import Derived.Test.YtopebociobgmhaaK
import Derived.Test.YtopebociobgmhaaJ
namespace Go.Proofs.Ytopebociobgmhaa
open Go.RowKit

theorem two_new (w : World) (o : Obj) (c : Array Value) : ((w.alloc o).alloc (.cells c 29)).heap[w.heap.size + 1]? = some (.cells c 29 (0, 0)) := by
  have h := heap_alloc_new (w.alloc o) (.cells c 29)
  rwa [show (w.alloc o).heap.size = w.heap.size + 1 by simp] at h

theorem FrAt.allA {w : World} {g : Nat} {buf : ByteArray} {f : Fr.G} (h : FrAt w g buf f) (o : Obj) :
    (w.alloc o).cell? ⟨g, 0, none⟩ = some (.string buf) ∧ (w.alloc o).cell? ⟨g, 1, none⟩ = some (.int .i64 f.depth) ∧ (w.alloc o).cell? ⟨g, 2, none⟩ = some (.bool f.quote) ∧ (w.alloc o).cell? ⟨g, 3, none⟩ = some (.bool f.skip) ∧
    (w.alloc o).cell? ⟨g, 4, none⟩ = some (.bool f.closed) :=
  ⟨cell_alloc_of h.cell0 o, cell_alloc_of h.cell1 o, cell_alloc_of h.cell2 o, cell_alloc_of h.cell3 o, cell_alloc_of h.cell4 o⟩

set_option maxRecDepth 100000 in
set_option maxHeartbeats 400000 in
theorem szFramer_fits (f : Fr.F) (left : Int) (w : World) (h1 : left ≤ 1048576) (h2 : f.buf.length ≤ left) :
    Calls Try.prog 10 #[fv f, .int .i64 left] w fun e w' => e = .returned (.int .i64 (left - f.buf.length)) ∧ w.grownBy w' none := by
  unfold fv
  go_enter Try.func10, Try.ntmps10
  go_wp2_with fail
  go_ret
  exact ⟨rfl, grown_alloc (grown_refl _ _) _⟩

set_option maxRecDepth 100000 in
set_option maxHeartbeats 400000 in
theorem szFramer_not (f : Fr.F) (left : Int) (w : World) (hm : f.buf.length ≤ maxLen) (h0 : 0 ≤ left) (h1 : left ≤ 1048576) (h2 : left < f.buf.length) :
    Calls Try.prog 10 #[fv f, .int .i64 left] w fun e w' => e = .returned (.int .i64 (-1)) ∧ w.grownBy w' none := by
  unfold maxLen at hm
  unfold fv
  go_enter Try.func10, Try.ntmps10
  go_wp2_with fail
  go_ret
  exact ⟨rfl, grown_alloc (grown_refl _ _) _⟩

set_option maxRecDepth 100000 in
set_option maxHeartbeats 400000 in
theorem toFramer_any (f : Fr.F) (w : World) :
    Calls Try.prog 12 #[fv f] w fun e w' => e = .returned (fv f) ∧ w.grownBy w' none := by
  unfold fv
  go_enter Try.func12, Try.ntmps12
  go_wp2_with fail
  exact bodyPost_ret (v := fv f) (by simp [results, Try.results12, go_sem, fv]) rfl ⟨rfl, grown_alloc (grown_alloc (grown_alloc (grown_refl _ _) _) _) _⟩

set_option maxRecDepth 100000 in
set_option maxHeartbeats 400000 in
theorem eqFramer_yes (f : Fr.F) (w : World) :
    Calls Try.prog 18 #[fv f, fv f] w fun e w' => e = .returned (.bool true) ∧ w.grownBy w' none := by
  unfold fv
  go_enter Try.func18, Try.ntmps18
  go_wp2_with fail
  go_ret
  exact ⟨rfl, grown_alloc (grown_alloc (grown_refl _ _) _) _⟩

set_option maxRecDepth 100000 in
set_option maxHeartbeats 400000 in
theorem sFramerOK_closed (buf : List UInt8) (d : Int) (q k : Bool) (w : World) :
    Calls Try.prog 11 #[fv ⟨buf, d, q, k, true⟩] w fun e w' => e = .returned (.bool (Fr.sOK ⟨buf, d, q, k, true⟩)) ∧ w.grownBy w' none := by
  unfold fv
  go_enter Try.func11, Try.ntmps11
  go_wp2_with fail
  all_goals go_ret
  all_goals (subst_vars; refine ⟨congrArg (fun b => Ending.returned (Value.bool b)) (?_ : _ = _), grown_alloc (grown_refl _ _) _⟩; simp [Fr.sOK, *])

set_option maxRecDepth 100000 in
set_option maxHeartbeats 400000 in
theorem iFramerOK_closed (buf : List UInt8) (d : Int) (q k : Bool) (w : World) :
    Calls Try.prog 13 #[fv ⟨buf, d, q, k, true⟩] w fun e w' => e = .returned (.bool (Fr.iOK ⟨buf, d, q, k, true⟩)) ∧ w.grownBy w' none := by
  unfold fv
  go_enter Try.func13, Try.ntmps13
  go_wp2_with fail
  all_goals go_ret
  all_goals (subst_vars; refine ⟨congrArg (fun b => Ending.returned (Value.bool b)) (?_ : _ = _), grown_alloc (grown_refl _ _) _⟩; simp [Fr.iOK, Fr.F.shut, *])

set_option maxRecDepth 100000 in
set_option maxHeartbeats 400000 in
theorem sFramerOK_empty (d : Int) (q k : Bool) (w : World) :
    Calls Try.prog 11 #[fv ⟨[], d, q, k, false⟩] w fun e w' => e = .returned (.bool (Fr.sOK ⟨[], d, q, k, false⟩)) ∧ w.grownBy w' none := by
  unfold fv
  go_enter Try.func11, Try.ntmps11
  go_wp2_with fail
  all_goals go_ret
  all_goals (subst_vars; refine ⟨congrArg (fun b => Ending.returned (Value.bool b)) (?_ : _ = _), grown_alloc (grown_refl _ _) _⟩; simp [Fr.sOK, *])

set_option maxRecDepth 100000 in
set_option maxHeartbeats 400000 in
theorem iFramerOK_long (buf : List UInt8) (d : Int) (q k : Bool) (w : World) (hl : 3000 < buf.length) (hm : buf.length ≤ 1048576) :
    Calls Try.prog 13 #[fv ⟨buf, d, q, k, false⟩] w fun e w' => e = .returned (.bool (Fr.iOK ⟨buf, d, q, k, false⟩)) ∧ w.grownBy w' none := by
  unfold fv
  go_enter Try.func13, Try.ntmps13
  go_wp2_with fail
  all_goals go_ret
  all_goals (subst_vars; refine ⟨congrArg (fun b => Ending.returned (Value.bool b)) (?_ : _ = _), grown_alloc (grown_refl _ _) _⟩; simp [Fr.iOK, *])

set_option maxRecDepth 100000 in
set_option maxHeartbeats 400000 in
theorem sFramerOK_some (buf : List UInt8) (d : Int) (q k : Bool) (w : World) (hne : buf ≠ []) (hm : buf.length ≤ 1048576) (b' : List UInt8) (d' : Int) (q' s' c' : Bool) (out : List (List UInt8)) (h : buf.foldl Fr.sStep ⟨Fr.F.zero, []⟩ = ⟨⟨b', d', q', s', c'⟩, out⟩) :
    Calls Try.prog 11 #[fv ⟨buf, d, q, k, false⟩] w fun e w' => e = .returned (.bool (Fr.sOK ⟨buf, d, q, k, false⟩)) ∧ w.grownBy w' none := by
  unfold fv
  have HM := Lib.hid (show (⟨buf.toArray⟩ : ByteArray).size ≤ 1048576 from (by show buf.toArray.size ≤ _; simpa using hm))
  have HH := Lib.hid h
  have HNE := Lib.hid hne
  have e0 : (buf == []) = false := by simpa using hne
  clear h hne
  go_enter Try.func11, Try.ntmps11
  go_wp2_with (go_at_call 27; go_must (refine (l02Feed_as Fr.F.zero ⟨buf.toArray⟩ _ HM.out Fr.F.zero_ok b' d' q' s' c' out HH.out).mono ?_; rintro e1 w1 ⟨a1, cp1, rfl, ho1, hg1⟩; have HG1 := Lib.hid hg1; have hf1 : FrAt w1 w.heap.size ⟨buf.toArray⟩ ⟨d, q, k, false⟩ := FrAt.grown_ (heap_alloc_new w _) hg1 (by simp); have haa := hf1.allA; clear ho1 hg1 hf1))
  all_goals go_ret
  all_goals (refine ⟨congrArg (fun b => Ending.returned (Value.bool b)) (?_ : _ = Fr.sOK ⟨buf, d, q, k, false⟩), grown_alloc (grown_trans (World.grownBy_alloc w _ none) HG1.out (by simp)) _⟩; have hh := HH.out; have hne := HNE.out; simp [Fr.sOK, hh, *]; done)

theorem feed_from0 (g : Nat) (t : ByteArray) (w : World) (hf : FrAt w g ⟨#[]⟩ ⟨0, false, false, false⟩) (ht : t.size ≤ 1048576) (b' : List UInt8) (d' : Int) (q' s' c' : Bool) (out : List (List UInt8))
    (h : (Fr.iFeed Fr.F.zero t.data.toList).done = ⟨b', d', q', s', c'⟩) (ho : (Fr.iFeed Fr.F.zero t.data.toList).out = out) :
    Calls Try.prog 29 #[.pointer (some ⟨g, 0, none⟩), .string t] w fun e w' => ∃ a c, e = .returned (.slice a out.length c) ∧
      Own w' w.heap.size 9 1 (.slice a out.length c) out.length (sv out) ∧ w.grownBy w' (some g) ∧ FrAt w' g ⟨b'.toArray⟩ ⟨d', q', s', c'⟩ := by
  refine (feed_as g ⟨#[]⟩ ⟨0, false, false, false⟩ t w hf ht (by decide) Fr.F.zero_ok (Fr.iFeed Fr.F.zero t.data.toList) rfl).mono ?_
  rintro e w' ⟨a, c, h1, h2, h3, h4⟩
  rw [h] at h4
  rw [ho] at h1 h2
  exact ⟨a, c, h1, h2, h3, h4⟩

set_option maxRecDepth 100000 in
set_option maxHeartbeats 400000 in
theorem iFramerOK_some (buf : List UInt8) (d : Int) (q k : Bool) (w : World) (hl : buf.length ≤ 3000) (b' : List UInt8) (d' : Int) (q' s' c' : Bool) (out : List (List UInt8))
    (h : (Fr.iFeed Fr.F.zero buf).done = ⟨b', d', q', s', c'⟩) (ho : (Fr.iFeed Fr.F.zero buf).out = out) :
    Calls Try.prog 13 #[fv ⟨buf, d, q, k, false⟩] w fun e w' => e = .returned (.bool (Fr.iOK ⟨buf, d, q, k, false⟩)) ∧ w.grownBy w' none := by
  unfold fv
  have HH := Lib.hid h
  have HHO := Lib.hid ho
  have HM := Lib.hid (show (⟨buf.toArray⟩ : ByteArray).size ≤ 1048576 from (by show buf.toArray.size ≤ _; simp; omega))
  clear h ho
  go_enter Try.func13, Try.ntmps13
  go_wp2_with (go_at_call 29; go_must (refine (feed_from0 _ ⟨buf.toArray⟩ _ (two_new w _ _) HM.out b' d' q' s' c' out HH.out HHO.out).mono ?_; rintro e1 w1 ⟨a1, cp1, rfl, ho1, hg1, hf1⟩; have hfa := hf1.all; have hfb := (FrAt.grown_ (row := some (w.heap.size + 1)) (f := ⟨d, q, k, false⟩) (buf := ⟨buf.toArray⟩) (g := w.heap.size) (FrAt.grown_ (row := none) (heap_alloc_new w _) (World.grownBy_alloc _ _ none) (by simp)) hg1 (by simp)).all; have HG1 := Lib.hid (grown_trans (grown_alloc (World.grownBy_alloc w _ none) _) hg1 (by intro g e hlt; injection e with e; omega)); clear ho1 hg1 hf1))
  all_goals go_ret
  all_goals (refine ⟨congrArg (fun b => Ending.returned (Value.bool b)) (?_ : _ = Fr.iOK ⟨buf, d, q, k, false⟩), HG1.out⟩; have hh := HH.out; have hh2 := HHO.out; have hl2 : ¬ 3000 < buf.length := (by omega); simp [Fr.iOK, hh, hh2, hl2, *]; done)

end Go.Proofs.Ytopebociobgmhaa

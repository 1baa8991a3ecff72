/-
  The law FnExactFramerOK, walked; a framer that came in as an argument.
-/
import Derived.Test.YtopebociobgmhaaL
import Derived.ProofKit
namespace Go.Proofs.Ytopebociobgmhaa
open Go.RowKit Go.WideShapes

theorem sFramerOK_any (f : Fr.F) (w : World) (hm : f.buf.length ≤ 1048576) :
    Calls Try.prog 11 #[fv f] w fun e w' => e = .returned (.bool (Fr.sOK f)) ∧ w.grownBy w' none := by
  obtain ⟨buf, d, q, k, c⟩ := f
  cases c
  · by_cases hb : buf = []
    · subst hb; exact sFramerOK_empty d q k w
    · exact sFramerOK_some buf d q k w hb hm _ _ _ _ _ _ rfl
  · exact sFramerOK_closed buf d q k w

theorem iFramerOK_any (f : Fr.F) (w : World) (hm : f.buf.length ≤ 1048576) :
    Calls Try.prog 13 #[fv f] w fun e w' => e = .returned (.bool (Fr.iOK f)) ∧ w.grownBy w' none := by
  obtain ⟨buf, d, q, k, c⟩ := f
  cases c
  · by_cases hb : 3000 < buf.length
    · exact iFramerOK_long buf d q k w hb hm
    · exact iFramerOK_some buf d q k w (by omega) _ _ _ _ _ _ rfl rfl
  · exact iFramerOK_closed buf d q k w

theorem trod_field {H : Type} {enc : TypeId × Value → H} {P : Program} {w : World} {base : Nat} {spare : Nat → Bool} {held : Bool} {t : TypeId} {fs : Array Field} {fuel : Nat} {cs : List Value} {x : DataW H × List MemPlace}
    (hs : P.underlying t = some (.struct fs)) (h : DataW.trod enc P w base spare held fuel t cs = some x) (i : Nat) (f : Field) (hf : fs[i]? = some f) :
    ∃ n y, DataW.trod enc P w base spare held n f.type ((cs.drop f.offset).take (P.cellsOf f.type)) = some y := by
  obtain ⟨xs, n, _, _, _, hlen, hg⟩ := DataW.trod_struct hs h
  have hi : i < xs.length := by rw [hlen]; exact (Array.getElem?_eq_some_iff.1 hf).1
  exact ⟨n, xs[i], by rw [hg i f hf]; exact List.getElem?_eq_getElem hi⟩

theorem framer_of {H : Type} {enc : TypeId × Value → H} {w : World} {base : Nat} {spare : Nat → Bool} {held : Bool} {v : Value} {d : DataW H} {p : List MemPlace} {cs : Array Value}
    (hv : v = .agg cs) (hsz : cs.size = Try.prog.cellsOf 26) (h : DataW.Trod enc Try.prog w base spare held 26 v d p) : ∃ f : Fr.F, v = fv f ∧ f.buf.length ≤ maxLen := by
  subst hv
  have h5 : Try.prog.cellsOf 26 = 5 := by kernel_rfl
  have c9 : Try.prog.cellsOf 9 = 1 := by kernel_rfl
  have c3 : Try.prog.cellsOf 3 = 1 := by kernel_rfl
  have c4 : Try.prog.cellsOf 4 = 1 := by kernel_rfl
  obtain ⟨l⟩ := cs
  match l, hsz.trans h5 with
  | [v0, v1, v2, v3, v4], _ =>
    obtain ⟨fuel, hf⟩ := h
    obtain ⟨n0, y0, t0⟩ := trod_field Try.underlying26 hf 0 _ rfl
    obtain ⟨n1, y1, t1⟩ := trod_field Try.underlying26 hf 1 _ rfl
    obtain ⟨n2, y2, t2⟩ := trod_field Try.underlying26 hf 2 _ rfl
    obtain ⟨n3, y3, t3⟩ := trod_field Try.underlying26 hf 3 _ rfl
    obtain ⟨n4, y4, t4⟩ := trod_field Try.underlying26 hf 4 _ rfl
    simp [Value.cells, c9] at t0
    simp [Value.cells, c3] at t1
    simp [Value.cells, c4] at t2 t3 t4
    obtain ⟨s, e0, _, hs⟩ := DataW.trod_string Try.underlying9 t0
    obtain ⟨n, e1, _, _⟩ := DataW.trod_int Try.underlying3 t1
    obtain ⟨b2, e2, _⟩ := DataW.trod_bool Try.underlying4 t2
    obtain ⟨b3, e3, _⟩ := DataW.trod_bool Try.underlying4 t3
    obtain ⟨b4, e4, _⟩ := DataW.trod_bool Try.underlying4 t4
    simp only [List.cons.injEq, and_true] at e0 e1 e2 e3 e4
    subst e0 e1 e2 e3 e4
    exact ⟨⟨s.data.toList, n, b2, b3, b4⟩, rfl, by simpa using hs⟩

theorem box5 {w w1 : World} {a b c d e : Value} {t : TypeId} (hg : (w.alloc (.cells #[a, b, c, d, e] t)).grownBy w1 none) :
    w1.cell? ⟨w.heap.size, 0, none⟩ = some a ∧ w1.cell? ⟨w.heap.size, 1, none⟩ = some b ∧ w1.cell? ⟨w.heap.size, 2, none⟩ = some c ∧ w1.cell? ⟨w.heap.size, 3, none⟩ = some d ∧ w1.cell? ⟨w.heap.size, 4, none⟩ = some e :=
  have h := (Row.new w t #[a, b, c, d, e]).grown hg (by simp)
  ⟨h.cell 0, h.cell 1, h.cell 2, h.cell 3, h.cell 4⟩

theorem box_cells {w w1 : World} {cs : Array Value} {t : TypeId} (hg : (w.alloc (.cells cs t)).grownBy w1 none) (i : Nat) : w1.cell? ⟨w.heap.size, i, none⟩ = cs[i]? :=
  ((Row.new w t cs).grown hg (by simp)).cell i

set_option maxRecDepth 100000 in
set_option maxHeartbeats 400000 in
theorem lawFramerOK_any (f : Fr.F) (w : World) (hm : f.buf.length ≤ maxLen) :
    Calls Try.prog 4 #[fv f] w fun e w' => e = .returned (.bool true) ∧ w.grownBy w' none := by
  have HG := Lib.hid (grown_refl (w.alloc (.cells #[.string ⟨f.buf.toArray⟩, .int .i64 f.depth, .bool f.quote, .bool f.skip, .bool f.closed] 26)) none)
  by_cases h1 : 1048576 < f.buf.length
  · unfold fv
    go_enter Try.func4, Try.ntmps4
    go_wp2_with (go_at_call 10; go_must (refine (szFramer_not f _ _ hm (by omega) (by omega) (by omega)).mono ?_; rintro e1 w1 ⟨rfl, hg1⟩; have HGn := Lib.hid (grown_trans HG.out hg1 (by simp)); clear HG hg1; have HG := HGn; clear HGn; (try clear hbx); have hbx := box5 HG.out))
    go_ret
    exact ⟨rfl, grown_trans (World.grownBy_alloc w _ none) HG.out (by simp)⟩
  · have HA := Lib.hid (Fr.ok_alike f)
    have hpos : 0 ≤ (1048576 : Int) - f.buf.length := by omega
    unfold fv
    go_enter Try.func4, Try.ntmps4
    go_wp2_with (first | (go_at_call 10; go_must (refine (szFramer_fits f _ _ (by omega) (by omega)).mono ?_; rintro e1 w1 ⟨rfl, hg1⟩; have HGn := Lib.hid (grown_trans HG.out hg1 (by simp)); clear HG hg1; have HG := HGn; clear HGn; (try clear hbx); have hbx := box5 HG.out)) | (go_at_call 12; go_must (refine (toFramer_any f _).mono ?_; rintro e1 w1 ⟨rfl, hg1⟩; have HGn := Lib.hid (grown_trans HG.out hg1 (by simp)); clear HG hg1; have HG := HGn; clear HGn; (try clear hbx); have hbx := box5 HG.out)) | (go_at_call 11; go_must (refine (sFramerOK_any f _ (by omega)).mono ?_; rw [HA.out]; rintro e1 w1 ⟨rfl, hg1⟩; have HGn := Lib.hid (grown_trans HG.out hg1 (by simp)); clear HG hg1; have HG := HGn; clear HGn; (try clear hbx); have hbx := box5 HG.out)) | (go_at_call 13; go_must (refine (iFramerOK_any f _ (by omega)).mono ?_; rintro e1 w1 ⟨rfl, hg1⟩; have HGn := Lib.hid (grown_trans HG.out hg1 (by simp)); clear HG hg1; have HG := HGn; clear HGn; (try clear hbx); have hbx := box5 HG.out)))
    go_ret
    exact ⟨rfl, grown_trans (World.grownBy_alloc w _ none) HG.out (by simp)⟩

end Go.Proofs.Ytopebociobgmhaa

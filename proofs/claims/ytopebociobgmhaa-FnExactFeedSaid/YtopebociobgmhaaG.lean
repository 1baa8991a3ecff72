/-
  Contract of the reference's feed.
-/
import Derived.Test.YtopebociobgmhaaE
import Derived.Test.YtopebociobgmhaaB
import Derived.Deep.RegionWith
import Derived.Deep.RegionHeld3
namespace Go.Proofs.Ytopebociobgmhaa
open Go.RowKit

def FAt (w : World) (g : Nat) (f : Fr.F) : Prop := FrAt w g ⟨f.buf.toArray⟩ ⟨f.depth, f.quote, f.skip, f.closed⟩

theorem FAt.new (w : World) (f : Fr.F) : FAt (w.alloc (.cells #[.string ⟨f.buf.toArray⟩, .int .i64 f.depth, .bool f.quote, .bool f.skip, .bool f.closed] 29)) w.heap.size f := heap_alloc_new w _

theorem FrAt.grown_ {w w' : World} {g : Nat} {buf : ByteArray} {f : Fr.G} {row : Option Nat} (h : FrAt w g buf f) (hb : w.grownBy w' row) (hg : some g ≠ row) : FrAt w' g buf f := by
  unfold FrAt at h ⊢
  rw [hb.block g (Array.getElem?_eq_some_iff.1 h).1 hg]
  exact h
theorem FrAt.row_ {w : World} {g : Nat} {buf : ByteArray} {f : Fr.G} (h : FrAt w g buf f) : Row w g 29 #[.string buf, .int .i64 f.depth, .bool f.quote, .bool f.skip, .bool f.closed] := .of h

theorem sfold_next (t : ByteArray) (k : Nat) (h : k < t.size) (f0 : Fr.SS) : (t.data.toList.take (k + 1)).foldl Fr.sStep f0 = Fr.sStep ((t.data.toList.take k).foldl Fr.sStep f0) t[k] := by
  rw [List.take_succ_eq_append_getElem (by simpa using h), List.foldl_append]; rfl

theorem sclosed_fold (l : List UInt8) (s : Fr.SS) (h : s.f.closed = true) : l.foldl Fr.sStep s = s := by
  induction l with
  | nil => rfl
  | cons b l ih => rw [List.foldl_cons, show Fr.sStep s b = s by simp [Fr.sStep, h]]; exact ih

structure SSt (w0 : World) (g g4 : Nat) (s : Fr.SS) (k : Nat) (vo : Value) (wr : World) : Prop where
  fr : FAt wr g s.f
  res : FAt wr g4 Fr.F.zero
  out : Own wr w0.heap.size 9 1 vo s.out.length (sv s.out)
  grown : w0.grownBy wr none
  len : s.out.length ≤ k

def SInv (w0 : World) (g g4 : Nat) (f0 : Fr.SS) (t : ByteArray) (vo vi : Value) (wr : World) : Prop :=
  ∃ k : Nat, k ≤ t.size ∧ vi = .int .i64 k ∧ SSt w0 g g4 ((t.data.toList.take k).foldl Fr.sStep f0) k vo wr

def SPost (w0 : World) (f0 : Fr.SS) (t : ByteArray) (e : Ending) (w' : World) : Prop :=
  ∃ v, e = .returned (.tuple #[fv (t.data.toList.foldl Fr.sStep f0).f, v]) ∧ Own w' w0.heap.size 9 1 v (t.data.toList.foldl Fr.sStep f0).out.length (sv (t.data.toList.foldl Fr.sStep f0).out) ∧ w0.grownBy w' none

theorem l02Byte_as (f : Fr.F) (b : UInt8) (w : World) (hok : f.ok) (hc : f.closed = false) (b' : List UInt8) (d' : Int) (q' s' c' r : Bool) (h : Fr.sByte f b = (⟨b', d', q', s', c'⟩, r)) :
    Calls Try.prog 34 #[fv f, .int .u8 b.toNat] w fun e w' =>
      e = .returned (.tuple #[.agg #[.string ⟨b'.toArray⟩, .int .i64 d', .bool q', .bool s', .bool c'], .bool r]) ∧ Below w.heap.size w w' :=
  (l02Byte_any f b w hok hc).mono fun e w' ⟨h1, h2⟩ => ⟨by rw [h1, h]; rfl, h2⟩

theorem Below.undrew {B : Nat} {w a : World} (h : Below B w.drew a) : Below B w a := ⟨h.os, h.tape, h.output, h.size, h.block⟩
theorem arm_a {wr w1 : World} (h : Below wr.heap.size wr w1) : wr.grownBy w1 none := ⟨h.os, h.tape, h.output, h.size, fun k hk _ => h.block k hk⟩
theorem arm_b {wr w1 : World} {z : ByteArray} {d : Int} {b1 b2 b3 : Bool}
    (h : Below (wr.alloc (.cells #[.string z, .int .i64 d, .bool b1, .bool b2, .bool b3] 29)).heap.size (wr.alloc (.cells #[.string z, .int .i64 d, .bool b1, .bool b2, .bool b3] 29)) w1) :
    FrAt w1 wr.heap.size z ⟨d, b1, b2, b3⟩ ∧ wr.grownBy w1 none := by
  have hg := arm_a h
  refine ⟨FrAt.grown_ (heap_alloc_new wr _) hg (by simp), grown_trans (World.grownBy_alloc wr _ none) hg (by simp)⟩

theorem r5_a {wr w1 : World} {r : Bool} (f : Fr.F) (hg : wr.grownBy w1 none) :
    ∃ gx, Value.pointer (some ⟨w1.heap.size, 0, none⟩) = Value.pointer (some ⟨gx, 0, none⟩) ∧
      FAt (w1.alloc (.cells #[.string ⟨f.buf.toArray⟩, .int .i64 f.depth, .bool f.quote, .bool f.skip, .bool f.closed] 29)) gx f ∧ Value.bool r = Value.bool r ∧
      wr.grownBy (w1.alloc (.cells #[.string ⟨f.buf.toArray⟩, .int .i64 f.depth, .bool f.quote, .bool f.skip, .bool f.closed] 29)) none ∧ wr.heap.size ≤ gx :=
  ⟨_, rfl, FAt.new _ _, rfl, grown_alloc hg _, hg.size⟩

theorem r5_b {wr w1 : World} {r : Bool} {z : ByteArray} {d : Int} {b1 b2 b3 : Bool} (f : Fr.F) (hf : FrAt w1 wr.heap.size z ⟨d, b1, b2, b3⟩ ∧ wr.grownBy w1 none) :
    ∃ gx, Value.pointer (some ⟨wr.heap.size, 0, none⟩) = Value.pointer (some ⟨gx, 0, none⟩) ∧
      FAt (((((w1.setCell ⟨wr.heap.size, 0, none⟩ (.string ⟨f.buf.toArray⟩)).setCell ⟨wr.heap.size, 1, none⟩ (.int .i64 f.depth)).setCell ⟨wr.heap.size, 2, none⟩ (.bool f.quote)).setCell ⟨wr.heap.size, 3, none⟩ (.bool f.skip)).setCell ⟨wr.heap.size, 4, none⟩ (.bool f.closed)) gx f ∧ Value.bool r = Value.bool r ∧ wr.grownBy (((((w1.setCell ⟨wr.heap.size, 0, none⟩ (.string ⟨f.buf.toArray⟩)).setCell ⟨wr.heap.size, 1, none⟩ (.int .i64 f.depth)).setCell ⟨wr.heap.size, 2, none⟩ (.bool f.quote)).setCell ⟨wr.heap.size, 3, none⟩ (.bool f.skip)).setCell ⟨wr.heap.size, 4, none⟩ (.bool f.closed)) none ∧ wr.heap.size ≤ gx := by
  refine ⟨_, rfl, (((((hf.1.set0 _).set1 _).set2 _).set3 _).set4 _), rfl, ?_, Nat.le_refl _⟩
  refine grown_trans hf.2 (grown_set_own (grown_set_own (grown_set_own (grown_set_own (grown_set_own (grown_refl _ (some wr.heap.size)) _ _) _ _) _ _) _ _) _ _) ?_
  intro g e hlt
  injection e with e
  omega

theorem sStep_ok (s : Fr.SS) (b : UInt8) (h : s.f.ok) : (Fr.sStep s b).f.ok := by
  obtain ⟨⟨buf, d, q, k, c⟩, out⟩ := s
  cases c
  · have h1 := Fr.step_alike ⟨⟨d, q, k, false⟩, buf, out⟩ b h
    have h2 := h1.2
    simp only [Fr.IS.done, Bool.false_eq_true, if_false] at h2
    rw [h2]
    exact (Fr.F.done_ok _ h1.1).1
  · rw [show Fr.sStep ⟨⟨buf, d, q, k, true⟩, out⟩ b = ⟨⟨buf, d, q, k, true⟩, out⟩ by simp [Fr.sStep]]
    exact h
theorem sfold_ok (t : List UInt8) : ∀ s : Fr.SS, s.f.ok → (t.foldl Fr.sStep s).f.ok := by
  induction t with
  | nil => exact fun s h => h
  | cons b t ih => exact fun s h => ih _ (sStep_ok s b h)

theorem SInv.next {w wr : World} {g g4 : Nat} {f0 st st' : Fr.SS} {t : ByteArray} {k : Nat} {vo : Value} (hk : k < t.size)
    (hfn : (t.data.toList.take (k + 1)).foldl Fr.sStep f0 = Fr.sStep st t[k]) (hstep : Fr.sStep st t[k] = st') (hst : SSt w g g4 st' (k + 1) vo wr) :
    SInv w g g4 f0 t vo (.int .i64 (k + 1)) wr := ⟨k + 1, by omega, by simp, by rw [hfn, hstep]; exact hst⟩

theorem set5 {wc : World} {g : Nat} {z : ByteArray} {G : Fr.G} (f : Fr.F) (h : FrAt wc g z G) :
    FAt (((((wc.setCell ⟨g, 0, none⟩ (.string ⟨f.buf.toArray⟩)).setCell ⟨g, 1, none⟩ (.int .i64 f.depth)).setCell ⟨g, 2, none⟩ (.bool f.quote)).setCell ⟨g, 3, none⟩ (.bool f.skip)).setCell ⟨g, 4, none⟩ (.bool f.closed)) g f :=
  (((((h.set0 _).set1 _).set2 _).set3 _).set4 _)
theorem set5_grown (wc : World) (g : Nat) (b0 b1 b2 b3 b4 : Value) :
    wc.grownBy (((((wc.setCell ⟨g, 0, none⟩ b0).setCell ⟨g, 1, none⟩ b1).setCell ⟨g, 2, none⟩ b2).setCell ⟨g, 3, none⟩ b3).setCell ⟨g, 4, none⟩ b4) (some g) :=
  grown_set_own (grown_set_own (grown_set_own (grown_set_own (grown_set_own (grown_refl _ _) _ _) _ _) _ _) _ _) _ _

theorem SSt.same {w wr w' : World} {g4 : Nat} {f f' : Fr.F} {out : List (List UInt8)} {k : Nat} {vo : Value} (h4 : FAt wr g4 Fr.F.zero) (hout : Own wr w.heap.size 9 1 vo out.length (sv out)) (hg : w.grownBy wr none)
    (hfr : FAt wr w.heap.size f) (hne : g4 ≠ w.heap.size) (hw : wr.grownBy w' (some w.heap.size)) (hfr' : FAt w' w.heap.size f') (hlen : out.length ≤ k) : SSt w w.heap.size g4 ⟨f', out⟩ k vo w' :=
  ⟨hfr', h4.grown_ hw (by simpa using hne), hout.grown hw (.inr (hout.ne_row hfr.row_ (by decide))), grown_trans hg hw (by intro g e hlt; injection e with e; omega), hlen⟩

theorem SPost.of {w0 wr : World} {f0 st : Fr.SS} {t : ByteArray} {vo : Value} {g4 : Nat} {b0 b1 b2 b3 b4 : Value} (hst : t.data.toList.foldl Fr.sStep f0 = st)
    (hout : Own wr w0.heap.size 9 1 vo st.out.length (sv st.out)) (hg : w0.grownBy wr none) (h4 : FAt wr g4 Fr.F.zero) (h5 : w0.heap.size ≤ g4) :
    SPost w0 f0 t (.returned (.tuple #[fv st.f, vo])) (((((wr.setCell ⟨g4, 0, none⟩ b0).setCell ⟨g4, 1, none⟩ b1).setCell ⟨g4, 2, none⟩ b2).setCell ⟨g4, 3, none⟩ b3).setCell ⟨g4, 4, none⟩ b4) := by
  subst hst
  have hk : wr.grownBy (((((wr.setCell ⟨g4, 0, none⟩ b0).setCell ⟨g4, 1, none⟩ b1).setCell ⟨g4, 2, none⟩ b2).setCell ⟨g4, 3, none⟩ b3).setCell ⟨g4, 4, none⟩ b4) (some g4) :=
    grown_set_own (grown_set_own (grown_set_own (grown_set_own (grown_set_own (grown_refl _ _) _ _) _ _) _ _) _ _) _ _
  refine ⟨vo, rfl, hout.grown hk (.inr (hout.ne_row h4.row_ (by decide))), grown_trans hg hk ?_⟩
  intro g e hlt
  injection e with e
  omega

set_option maxRecDepth 100000 in
set_option maxHeartbeats 4000000 in
theorem l02Feed_any (f : Fr.F) (t : ByteArray) (w : World) (ht : t.size ≤ 1048576) (hok : f.ok) :
    Calls Try.prog 27 #[fv f, .string t] w (SPost w ⟨f, []⟩ t) := by
  have HOK := Lib.hid hok
  clear hok
  unfold fv
  go_enter Try.func27, Try.ntmps27
  go_wp2_with fail
  go_loopw [6, 7] (fun so si wx => SInv w w.heap.size (w.heap.size + 1) ⟨f, []⟩ t so si wx) (fun _ si _ => t.size - (intOf si).toNat)
  case atStart =>
    refine ⟨0, Nat.zero_le _, rfl, ⟨?_, ?_, ?_, grown_alloc (grown_alloc (grown_alloc (grown_refl _ _) _) _) _, Nat.le_refl _⟩⟩
    · exact FrAt.grown_ (row := none) (FAt.new w f) (grown_alloc (grown_alloc (grown_refl _ _) _) _) (by simp)
    · refine FrAt.grown_ (row := none) ?_ (grown_alloc (grown_refl _ _) _) (by simp)
      have h := FAt.new (w.alloc (.cells #[.string ⟨f.buf.toArray⟩, .int .i64 f.depth, .bool f.quote, .bool f.skip, .bool f.closed] 29)) Fr.F.zero
      rw [show w.heap.size + 1 = (w.alloc (.cells #[.string ⟨f.buf.toArray⟩, .int .i64 f.depth, .bool f.quote, .bool f.skip, .bool f.closed] 29)).heap.size by simp]
      exact h
    · exact Own.made_ _ 0 #[] (by simp; omega) (by simp) (by simp [maxLen]) rfl
  case round =>
      obtain ⟨k, hk, rfl, hst⟩ := hrel
      generalize hs1 : (t.data.toList.take k).foldl Fr.sStep ⟨f, []⟩ = st at hst
      obtain ⟨⟨buf, d, q, sk, cl⟩, out⟩ := st
      have HS1 := Lib.hid hs1
      clear hs1
      obtain ⟨hfr, hres, hout, hgr, hlen⟩ := hst
      have hlen : out.length ≤ k := hlen
      have c0 := hfr.cell0
      have c1 := hfr.cell1
      have c2 := hfr.cell2
      have c3 := hfr.cell3
      have c4 := hfr.cell4
      have HFr := Lib.hid hfr
      have HR := Lib.hid hres
      have HO := Lib.hid hout
      have HG := Lib.hid hgr
      clear hfr hres hout hgr
      cases cl
      · by_cases hlt : k < t.size
        · have hok : (⟨buf, d, q, sk, false⟩ : Fr.F).ok := by
            have := sfold_ok (t.data.toList.take k) ⟨f, []⟩ HOK.out
            rwa [HS1.out] at this
          have HFN := Lib.hid (sfold_next t k hlt ⟨f, []⟩)
          rw [HS1.out] at HFN
          obtain ⟨⟨⟨b', d', q', s', c'⟩, r⟩, hsb⟩ : ∃ x, Fr.sByte ⟨buf, d, q, sk, false⟩ t[k] = x := ⟨_, rfl⟩
          have HSB := Lib.hid hsb
          clear hsb
          go_upto_region 5 with fail
          go_cut [8, 9] (fun s8 s9 wx => ∃ gx : Nat, s8 = .pointer (some ⟨gx, 0, none⟩) ∧ FAt wx gx ⟨b', d', q', s', c'⟩ ∧ s9 = .bool r ∧ wr.grownBy wx none ∧ wr.heap.size ≤ gx)
          case first =>
            have a0 := fun o => cell_alloc_of c0 o
            have a1 := fun o => cell_alloc_of c1 o
            have a2 := fun o => cell_alloc_of c2 o
            have a3 := fun o => cell_alloc_of c3 o
            have a4 := fun o => cell_alloc_of c4 o
            have hlt0 : w.heap.size < wr.heap.size := World.block_lt_of_cell? wr _ c0
            go_region_with (first | (go_at_call 34; refine (l02Byte_as ⟨buf, d, q, sk, false⟩ t[k] _ hok rfl b' d' q' s' c' r HSB.out).mono ?_; rintro e1 w1 ⟨rfl, hb1⟩; obtain ⟨hbc, hbf⟩ := bcell hb1; first | have HB := Lib.hid (arm_b (wr := wr) (Below.undrew hb1)) | have HA := Lib.hid (arm_a (wr := wr) (Below.undrew hb1))))
            all_goals (clear a0 a1 a2 a3 a4 hbc hbf; go_wp2_with fail; go_meet)
            all_goals first | (have h := HA.out; exact r5_a ⟨b', d', q', s', c'⟩ h) | (have h := HB.out; exact r5_b ⟨b', d', q', s', c'⟩ h)
          case rest =>
            obtain ⟨gx, rfl, hx, rfl, hgx, hle⟩ := hcut
            have HX := Lib.hid hx
            have HGX := Lib.hid hgx
            have HF2 := Lib.hid (HFr.out.grown_ hgx (by simp))
            have HR2 := Lib.hid (HR.out.grown_ hgx (by simp))
            have HO2 := Lib.hid (HO.out.grown hgx (by cases u6.ownBlock <;> simp))
            have HG2 := Lib.hid (grown_trans HG.out hgx (by simp))
            clear c0 c1 c2 c3 c4 hx hgx
            have HL := Lib.hid hlen
            have HN := Lib.hid (show out.length + 1 ≤ maxLen ∧ (out.length + 1) * 16 ≤ 140737488355328 from by simp only [maxLen]; omega)
            go_upto_region 6 with fail
            go_cut [8] (fun s8 wx => FAt wx w.heap.size ⟨b', d', q', s', c'⟩ ∧ wc.grownBy wx (some w.heap.size))
            case first =>
              have hxa := HX.out.all
              have hfa := HF2.out.all
              go_wp2_with fail
              go_meet
              exact ⟨set5 ⟨b', d', q', s', c'⟩ HF2.out, set5_grown _ _ _ _ _ _ _⟩
            case rest =>
              obtain ⟨hf3, hw3⟩ := hcut
              have hst3 : SSt w w.heap.size (w.heap.size + 1) ⟨⟨b', d', q', s', c'⟩, out⟩ k u6 wc := SSt.same HR2.out HO2.out HG2.out HF2.out (by omega) hw3 hf3 HL.out
              have H3 := Lib.hid hst3
              clear hf3 hw3 hst3 HR2 HO2 HG2 HF2 HX HGX
              cases r
              · have HSTEP := Lib.hid (show Fr.sStep ⟨⟨buf, d, q, sk, false⟩, out⟩ t[k] = ⟨⟨b', d', q', s', c'⟩, out⟩ from by simp [Fr.sStep, HSB.out])
                go_wp2_with fail
                go_roundw
                case rel => exact SInv.next hlt HFN.out HSTEP.out ⟨H3.out.fr, H3.out.res, H3.out.out, H3.out.grown, by have := HL.out; simp only; omega⟩
                case measure => simp [intOf]; omega
              · have HSTEP := Lib.hid (show Fr.sStep ⟨⟨buf, d, q, sk, false⟩, out⟩ t[k] = ⟨Fr.F.zero, out ++ [b']⟩ from by simp [Fr.sStep, HSB.out])
                have c0 := H3.out.fr.cell0
                go_wp2_with (first | (at_builtin; go_must (refine wpList_app1 rfl (.tmp 32) (.tmp 35) 32 rfl el_texts rfl H3.out.out rfl rfl rfl HN.out.1 HN.out.2 H3.out.grown.size ?_); intro a3 cp3 w3 hown3 hg3; have hfa3 := (FrAt.grown_ H3.out.fr hg3 (H3.out.out.ne_row H3.out.fr.row_ (by decide)).symm).all; have HF4 := Lib.hid (FrAt.grown_ H3.out.fr hg3 (H3.out.out.ne_row H3.out.fr.row_ (by decide)).symm); have HR4 := Lib.hid (FrAt.grown_ H3.out.res hg3 (H3.out.out.ne_row H3.out.res.row_ (by decide)).symm); have HO4 := Lib.hid hown3; have HG4 := Lib.hid (grown_trans H3.out.grown hg3 (H3.out.out.no_old w.heap.size (Nat.le_refl _))); clear hown3 hg3))
                go_roundw
                case rel => exact SInv.next hlt HFN.out HSTEP.out (SSt.same HR4.out (by simpa [sv_snoc] using HO4.out) HG4.out HF4.out (by omega) (set5_grown _ _ _ _ _ _ _) (set5 Fr.F.zero HF4.out) (by have := HL.out; simp; omega))
                case measure => simp [intOf]; omega
        · have hkt : k = t.size := by omega
          have hall : Hid (t.data.toList.foldl Fr.sStep ⟨f, []⟩ = ⟨⟨buf, d, q, sk, false⟩, out⟩) := by
            show _ = _
            rw [← HS1.out, List.take_of_length_le (by simp; omega)]
          have hra := HR.out.all
          have HK := Lib.hid hkt
          clear hkt
          go_wp2_with fail
          exact bodyPost_ret (v := .tuple #[fv ⟨buf, d, q, sk, false⟩, u6]) (by simp [results, Try.results27, go_sem, fv, *]) rfl (SPost.of hall.out HO.out HG.out HR.out (by omega))
      · have hall : Hid (t.data.toList.foldl Fr.sStep ⟨f, []⟩ = ⟨⟨buf, d, q, sk, true⟩, out⟩) := by
          have e := List.take_append_drop k t.data.toList
          show _ = _
          rw [← e, List.foldl_append, HS1.out]
          exact sclosed_fold _ _ rfl
        have hra := HR.out.all
        by_cases hlt : k < t.size
        all_goals
          go_wp2_with fail
          exact bodyPost_ret (v := .tuple #[fv ⟨buf, d, q, sk, true⟩, u6]) (by simp [results, Try.results27, go_sem, fv, *]) rfl (SPost.of hall.out HO.out HG.out HR.out (by omega))

end Go.Proofs.Ytopebociobgmhaa

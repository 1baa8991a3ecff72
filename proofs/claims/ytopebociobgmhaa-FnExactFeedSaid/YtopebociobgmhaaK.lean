/-
  Contracts of the laws' own helpers over texts: what is equal is told equal, marks are laid and found again.
-/
import Derived.Test.YtopebociobgmhaaA
import Derived.Deep.QuietTactic
import Derived.Deep.RegionWith
namespace Go.Proofs.Ytopebociobgmhaa
open Go.RowKit

def tv (l : List ByteArray) : List Value := l.map Value.string

theorem add_spotless (b off j : Nat) : (⟨b, off, none⟩ : Addr).add j = ⟨b, off + j, none⟩ := by unfold Addr.add; split <;> simp_all

/-- A row of cells that is read: where it lies. -/
theorem Lies.at_ {w : World} {a : Option Addr} {xs : List Value} (h : Lies w a xs) (hn : 0 < xs.length) :
    ∃ b off, a = some ⟨b, off, none⟩ ∧ b < w.heap.size ∧ ∀ j u, xs[j]? = some u → w.cell? ⟨b, off + j, none⟩ = some u := by
  rcases h with h | ⟨⟨b, off, spot⟩, rfl, hb, hc⟩
  · simp [h] at hn
  · have h0 := hc 0 _ (List.getElem?_eq_getElem hn)
    have hs : spot = none := by simpa [Addr.add] using World.cell?_spot h0
    subst hs
    exact ⟨b, off, rfl, hb, fun j u hu => by rw [← add_spotless]; exact hc j u hu⟩

theorem Lies.grown {w w' : World} {a : Option Addr} {xs : List Value} {row : Option Nat} (h : Lies w a xs) (hg : w.grownBy w' row) (hne : ∀ ad, a = some ad → row ≠ some ad.block) : Lies w' a xs := by
  rcases h with h | ⟨ad, rfl, hb, hc⟩
  · exact .inl h
  · refine .inr ⟨ad, rfl, Nat.lt_of_lt_of_le hb hg.size, fun j u hu => ?_⟩
    rw [World.cell?_of_block (w := w)]
    · exact hc j u hu
    · have hbl : (ad.add j).block = ad.block := by unfold Addr.add; split <;> rfl
      rw [hbl]
      exact hg.block _ hb (fun e => hne ad rfl e.symm)

/-- The digits of a mark, and a mark. -/
def digs (k : Nat) : List UInt8 := if k = 0 then [] else digs (k / 10) ++ [48 + UInt8.ofNat (k % 10)]
decreasing_by omega
def markT (k : Nat) : ByteArray := ⟨(109 :: digs k).toArray⟩
theorem digs_zero : digs 0 = [] := by rw [digs]; rfl
theorem digs_pos (k : Nat) (h : 0 < k) : digs k = digs (k / 10) ++ [48 + UInt8.ofNat (k % 10)] := by
  rw [digs, if_neg (by omega)]
theorem digs_len (k : Nat) : (digs k).length ≤ k := by
  induction k using Nat.strongRecOn with
  | ind k ih =>
    by_cases h : k = 0
    · subst h; simp [digs_zero]
    · rw [digs_pos k (by omega), List.length_append]
      have := ih (k / 10) (by omega)
      simp; omega

theorem conv_dig (n : Nat) (W : World) (x : Int) (b : UInt8) (h : n = W.heap.size) (hx : x = b.toNat) :
    (convert 42 9 (.slice (some ⟨n, 0, none⟩) 1 1)).run Try.prog (W.alloc (.cells #[.int .u8 x] 5)) = .ok (.string ⟨#[b]⟩) (W.alloc (.cells #[.int .u8 x] 5)) := by
  subst h hx
  exact conv_bytes_string _ _ 1 1 [b] rfl (lies_one _ _ _)

def MarkInv (w : World) (k0 : Nat) (vk vo : Value) (wr : World) : Prop :=
  ∃ (k : Nat) (l : List UInt8), vk = .int .i64 k ∧ k ≤ k0 ∧ vo = .string ⟨l.toArray⟩ ∧ digs k ++ l = digs k0 ∧ w.grownBy wr none

set_option maxRecDepth 100000 in
set_option maxHeartbeats 400000 in
theorem markText_any (k : Nat) (w : World) (h1 : 1 ≤ k) (h2 : k ≤ 1073741824) :
    Calls Try.prog 31 #[.int .i64 k] w fun e w' => e = .returned (.string (markT k)) ∧ w.grownBy w' none := by
  have hlen := digs_len k
  have HL := Lib.hid hlen
  clear hlen
  go_enter Try.func31, Try.ntmps31
  go_wp2_with fail
  go_loopw [0, 3] (fun vk vo wr => MarkInv w k vk vo wr) (fun vk _ _ => (intOf vk).toNat)
  case atStart => exact ⟨k, [], rfl, Nat.le_refl _, rfl, by simp, grown_refl _ _⟩
  case round =>
    obtain ⟨j, l, rfl, hj, rfl, hd, hg⟩ := hrel
    have HG := Lib.hid hg
    have HD := Lib.hid hd
    clear hg
    have hll : l.length ≤ 1073741824 := by
      have h3 := congrArg List.length hd
      simp only [List.length_append] at h3
      have := HL.out
      omega
    clear hd
    by_cases hpos : 0 < j
    · have hcv := fun n W h => conv_dig n W (48 + (j : Int) % 10) (48 + UInt8.ofNat (j % 10)) h (by simp [UInt8.toNat_add, UInt8.toNat_ofNat']; omega)
      go_wp2_with fail
      go_roundw
      case rel => exact ⟨j / 10, (48 + UInt8.ofNat (j % 10)) :: l, by go_num, by omega, congrArg Value.string (by apply ByteArray.ext; simp), by rw [← HD.out, digs_pos j hpos]; simp, grown_alloc HG.out _⟩
      case measure => simp [intOf]; omega
    · go_wp2_with fail
      go_ret
      obtain rfl : j = 0 := by omega
      have hl : l = digs k := by have := HD.out; rwa [digs_zero, List.nil_append] at this
      exact ⟨by rw [hl]; exact congrArg (fun b => Ending.returned (Value.string b)) (by apply ByteArray.ext; simp [markT]), HG.out⟩

def sumT (l : List ByteArray) : Nat := (l.map ByteArray.size).sum
theorem sumT_take (l : List ByteArray) (k : Nat) (h : k < l.length) : sumT (l.take (k + 1)) = sumT (l.take k) + l[k].size := by
  unfold sumT; rw [List.take_succ_eq_append_getElem h, List.map_append, List.sum_append]; simp
theorem tv_at (l : List ByteArray) (k : Nat) (h : k < l.length) : (tv l)[k]? = some (.string l[k]) := by simp [tv, h]
theorem tv_len (l : List ByteArray) : (tv l).length = l.length := by simp [tv]
theorem sumT_mono (l : List ByteArray) (k : Nat) : sumT (l.take k) ≤ sumT l := by
  have h : sumT l = sumT (l.take k) + sumT (l.drop k) := by
    unfold sumT; rw [← List.sum_append, ← List.map_append, List.take_append_drop]
  omega

def SzInv (left : Int) (ss : List ByteArray) (vl vi : Value) : Prop :=
  ∃ k : Nat, k ≤ ss.length ∧ vi = .int .i64 k ∧ vl = .int .i64 (left - ss.length - sumT (ss.take k)) ∧ 0 ≤ left - ss.length - sumT (ss.take k)

set_option maxRecDepth 100000 in
set_option maxHeartbeats 400000 in
theorem szStringS_fits (a : Option Addr) (c : Nat) (ss : List ByteArray) (left : Int) (w : World) (h : Lies w a (tv ss)) (h1 : left ≤ 1048576) (h2 : ss.length + sumT ss ≤ left) :
    Calls Try.prog 14 #[.slice a ss.length c, .int .i64 left] w fun e w' => e = .returned (.int .i64 (left - ss.length - sumT ss)) ∧ w = w' := by
  have HLi := Lib.hid h
  clear h
  go_enter Try.func14, Try.ntmps14
  go_wp2_with fail
  go_loop [1, 5] (fun vl vi => SzInv left ss vl vi) (fun _ vi => ss.length - (intOf vi).toNat)
  case atStart => exact ⟨0, Nat.zero_le _, rfl, by simp [sumT], by simp [sumT]; omega⟩
  case round =>
    obtain ⟨k, hk, rfl, rfl, hpos⟩ := hrel
    have hmono := sumT_mono ss k
    by_cases hlt : k < ss.length
    · obtain ⟨b, off, rfl, hb, hc⟩ := HLi.out.at_ (by rw [tv_len]; omega)
      have hcell := hc k _ (tv_at ss k hlt)
      have hst := sumT_take ss k hlt
      have hm2 := sumT_mono ss (k + 1)
      rw [hst] at hm2
      have HST := Lib.hid hst
      have hlt2 : (k : Int) < (ss.length : Int) := by omega
      clear hc hst
      go_wp2_with fail
      go_round
      case rel => exact ⟨k + 1, by omega, by go_num, by rw [HST.out]; go_num, by rw [HST.out]; omega⟩
      case measure => simp [intOf]; omega
    · have hke : k = ss.length := by omega
      have HK := Lib.hid (show ss.take k = ss by rw [hke]; exact List.take_length)
      clear hke
      go_wp2_with fail
      go_ret
      exact ⟨by rw [HK.out]; rfl, rfl⟩

set_option maxRecDepth 100000 in
set_option maxHeartbeats 400000 in
theorem szStringS_not (a : Option Addr) (c : Nat) (ss : List ByteArray) (left : Int) (w : World) (h : Lies w a (tv ss)) (hm : ∀ s ∈ ss, s.size ≤ maxLen) (hn : ss.length ≤ maxLen) (h0 : 0 ≤ left) (h1 : left ≤ 1048576) (h2 : left < ss.length + sumT ss) :
    Calls Try.prog 14 #[.slice a ss.length c, .int .i64 left] w fun e w' => e = .returned (.int .i64 (-1)) ∧ w = w' := by
  have HLi := Lib.hid h
  have HM := Lib.hid hm
  unfold maxLen at hn
  clear h hm
  by_cases hle : left - ss.length < 0
  · go_enter Try.func14, Try.ntmps14
    go_wp2_with fail
    go_ret
    exact ⟨rfl, rfl⟩
  · go_enter Try.func14, Try.ntmps14
    go_wp2_with fail
    go_loop [1, 5] (fun vl vi => SzInv left ss vl vi) (fun _ vi => ss.length - (intOf vi).toNat)
    case atStart => exact ⟨0, Nat.zero_le _, rfl, by simp [sumT], by simp [sumT]; omega⟩
    case round =>
      obtain ⟨k, hk, rfl, rfl, hpos⟩ := hrel
      by_cases hlt : k < ss.length
      · obtain ⟨b, off, rfl, hb, hc⟩ := HLi.out.at_ (by rw [tv_len]; omega)
        have hcell := hc k _ (tv_at ss k hlt)
        have HST := Lib.hid (sumT_take ss k hlt)
        have hsz := HM.out ss[k] (List.getElem_mem hlt)
        unfold maxLen at hsz
        have hlt2 : (k : Int) < (ss.length : Int) := by omega
        clear hc
        by_cases hneg : left - ss.length - sumT (ss.take k) - ss[k].size < 0
        · go_wp2_with fail
          go_ret
          exact ⟨rfl, rfl⟩
        · go_wp2_with fail
          go_round
          case rel => exact ⟨k + 1, by omega, by go_num, by rw [HST.out]; go_num, by rw [HST.out]; omega⟩
          case measure => simp [intOf]; omega
      · exfalso
        rw [show ss.take k = ss by rw [show k = ss.length by omega]; exact List.take_length] at hpos
        omega

/-- equal texts are told equal -/
theorem eqStringS_yes (a1 a2 : Option Addr) (c1 c2 : Nat) (ss : List ByteArray) (w : World) (hn : ss.length ≤ maxLen) (h1 : Lies w a1 (tv ss)) (h2 : Lies w a2 (tv ss)) :
    Calls Try.prog 19 #[.slice a1 ss.length c1, .slice a2 ss.length c2] w fun e w' => e = .returned (.bool true) ∧ w.grownBy w' none := by
  have HL1 := Lib.hid h1
  have HL2 := Lib.hid h2
  unfold maxLen at hn
  clear h1 h2
  go_enter Try.func19, Try.ntmps19
  go_wp2_with fail
  go_loopw [5] (fun vi wr => ∃ k : Nat, k ≤ ss.length ∧ vi = .int .i64 k ∧ w.grownBy wr none) (fun vi _ => ss.length - (intOf vi).toNat)
  case atStart => exact ⟨0, Nat.zero_le _, rfl, grown_refl _ _⟩
  case round =>
    obtain ⟨k, hk, rfl, hg⟩ := hrel
    have HG := Lib.hid hg
    by_cases hlt : k < ss.length
    · obtain ⟨b1, o1, rfl, hb1, hc1⟩ := HL1.out.at_ (by rw [tv_len]; omega)
      obtain ⟨b2, o2, rfl, hb2, hc2⟩ := HL2.out.at_ (by rw [tv_len]; omega)
      have hcell1 : wr.cell? ⟨b1, o1 + k, none⟩ = some (.string ss[k]) := hg.cell (hc1 k _ (tv_at ss k hlt)) (by simp)
      have hcell2 : wr.cell? ⟨b2, o2 + k, none⟩ = some (.string ss[k]) := hg.cell (hc2 k _ (tv_at ss k hlt)) (by simp)
      have hlt2 : (k : Int) < (ss.length : Int) := by omega
      have hge : (0 : Int) ≤ (k : Int) := by omega
      clear hc1 hc2 hg
      go_wp2_with fail
      go_quiet (fail)
      go_wp2_with fail
      go_roundw
      case rel => exact ⟨k + 1, by omega, by go_num, grown_drewN HG.out _⟩
      case measure => simp [intOf]; omega
    · clear hg
      go_wp2_with fail
      go_ret
      exact ⟨rfl, HG.out⟩

def zt (n : Nat) : Array Value := madeCells (Value.string ByteArray.empty).cells n
theorem zt_size (n : Nat) : (zt n).size = n := size_madeCells _ _
theorem make_texts (W : World) (n : Nat) (hn : n ≤ 1073741824) :
    (Instr.makeSlice 32 (.int .i64 n) (.int .i64 n)).run Try.prog W = .ok (.slice (some ⟨W.heap.size, 0, none⟩) n n) (W.alloc (.cells (zt n) 9)) := by
  obtain ⟨i, z, ht, hi, hz, hsize, hby, hzs, hsz⟩ := el_texts
  have h : (Try.prog.info? 9).map (fun i => (i.zero, i.size, i.bytes)) = some (some (.string ByteArray.empty), 1, 16) := by kernel_rfl
  obtain ⟨i0, hi0, hz0, hz1, hz2⟩ := info_parts h
  have hr := run_make (P := Try.prog) W 32 9 i0 _ Try.underlying32 hi0 hz0 .i64 .i64 n n (by omega) (Int.le_refl _) (by rw [hz2]; omega) (by omega)
  rw [hz1] at hr
  simpa [zt] using hr

def CopyInv (w : World) (ss : List ByteArray) (vi : Value) (wr : World) : Prop :=
  ∃ (k : Nat) (cur : Array Value), k ≤ ss.length ∧ vi = .int .i64 k ∧ Row wr w.heap.size 9 cur ∧ cur.size = ss.length ∧ cur.toList.take k = tv (ss.take k) ∧ w.grownBy wr none

theorem take_set (cur : Array Value) (k : Nat) (u : Value) (h : k < cur.size) : (cur.setIfInBounds k u).toList.take (k + 1) = cur.toList.take k ++ [u] := by
  simp [Array.toList_setIfInBounds, List.take_succ_eq_append_getElem, h, List.take_set]
  exact List.set_eq_of_length_le (by simp; omega)
theorem tv_take (ss : List ByteArray) (k : Nat) (h : k < ss.length) : tv (ss.take (k + 1)) = tv (ss.take k) ++ [.string ss[k]] := by
  unfold tv; rw [List.take_succ_eq_append_getElem h, List.map_append]; rfl

set_option maxRecDepth 100000 in
set_option maxHeartbeats 400000 in
theorem toStringS_any (a : Option Addr) (c : Nat) (ss : List ByteArray) (w : World) (hn : ss.length ≤ 1073741824) (h : Lies w a (tv ss)) :
    Calls Try.prog 16 #[.slice a ss.length c] w fun e w' => ∃ g, e = .returned (.slice (some ⟨g, 0, none⟩) ss.length ss.length) ∧ Own w' w.heap.size 9 1 (.slice (some ⟨g, 0, none⟩) ss.length ss.length) ss.length (tv ss) ∧ w.grownBy w' none := by
  have HL := Lib.hid h
  clear h
  have hmk := fun W => make_texts W ss.length hn
  go_enter Try.func16, Try.ntmps16
  go_wp2_with fail
  go_loopw [4] (fun vi wr => CopyInv w ss vi wr) (fun vi _ => ss.length - (intOf vi).toNat)
  case atStart => exact ⟨0, zt ss.length, Nat.zero_le _, rfl, Row.new _ _ _, zt_size _, by simp [tv], grown_alloc (grown_refl _ _) _⟩
  case round =>
    obtain ⟨k, cur, hk, rfl, hr, hcs, ht, hg⟩ := hrel
    have HR := Lib.hid hr
    have HT := Lib.hid ht
    have HG := Lib.hid hg
    have HC := Lib.hid hcs
    clear hmk hr ht hcs
    by_cases hlt : k < ss.length
    · obtain ⟨b1, o1, rfl, hb1, hc1⟩ := HL.out.at_ (by rw [tv_len]; omega)
      have hcell1 : wr.cell? ⟨b1, o1 + k, none⟩ = some (.string ss[k]) := hg.cell (hc1 k _ (tv_at ss k hlt)) (by simp)
      have hcell2 : wr.cell? ⟨w.heap.size, k, none⟩ = some (cur[k]'(by have := HC.out; omega)) := by rw [HR.out.cell]; simp
      have hfree : wr.frozen? ⟨w.heap.size, k, none⟩ = false := HR.out.free _ (by have := HC.out; omega)
      have hlt2 : (k : Int) < (ss.length : Int) := by omega
      have hge : (0 : Int) ≤ (k : Int) := by omega
      clear hc1 hg
      go_wp2_with fail
      go_roundw
      case rel => exact ⟨k + 1, cur.setIfInBounds k (.string ss[k]), by omega, by go_num, HR.out.set_ _ _, by simp [HC.out], by rw [take_set _ _ _ (by have := HC.out; omega), HT.out, tv_take _ _ hlt], grown_set HG.out _ _ (by simp)⟩
      case measure => simp [intOf]; omega
    · clear hg
      have hke : k = ss.length := by omega
      have HK := Lib.hid hke
      clear hke
      go_wp2_with fail
      go_ret
      refine ⟨w.heap.size, rfl, ⟨by rw [tv_len]; omega, .inr ⟨w.heap.size, ss.length, cur, rfl, Nat.le_refl _, HR.out, Nat.le_refl _, by unfold maxLen; omega, by rw [HC.out]; omega, ?_⟩⟩, HG.out⟩
      have := HT.out
      rw [HK.out, List.take_length] at this
      rw [Nat.mul_one]; exact this

/-- Marks from k on. -/
def marks (n k : Nat) : List ByteArray := (List.range n).map fun i => markT (k + i)
theorem marks_len (n k : Nat) : (marks n k).length = n := by simp [marks]
theorem marks_at (n k i : Nat) (h : i < n) : (marks n k)[i]'(by rw [marks_len]; exact h) = markT (k + i) := by simp [marks]

def MarkSInv (w : World) (g n k0 sz : Nat) (vk vi : Value) (wr : World) : Prop :=
  ∃ (i : Nat) (cur : Array Value), i ≤ n ∧ vi = .int .i64 i ∧ vk = .int .i64 (k0 + i) ∧ Row wr g 9 cur ∧ cur.size = sz ∧ cur.toList.take i = tv ((marks n k0).take i) ∧ w.grownBy wr (some g)

set_option maxRecDepth 100000 in
set_option maxHeartbeats 400000 in
theorem markStringS_row (g n c k0 : Nat) (cur0 : Array Value) (w : World) (_hn : n ≤ 1073741824) (hk1 : 1 ≤ k0) (hk2 : k0 + n ≤ 1073741824) (hr : Row w g 9 cur0) (hcs : n ≤ cur0.size) :
    Calls Try.prog 20 #[.slice (some ⟨g, 0, none⟩) n c, .int .i64 k0] w fun e w' => e = .returned (.int .i64 (k0 + n)) ∧
      (∃ cur, Row w' g 9 cur ∧ cur.size = cur0.size ∧ cur.toList.take n = tv (marks n k0)) ∧ w.grownBy w' (some g) := by
  have HR0 := Lib.hid hr
  clear hr
  go_enter Try.func20, Try.ntmps20
  go_wp2_with fail
  go_loopw [1, 5] (fun vk vi wr => MarkSInv w g n k0 cur0.size vk vi wr) (fun _ vi _ => n - (intOf vi).toNat)
  case atStart => exact ⟨0, cur0, Nat.zero_le _, rfl, by simp, HR0.out, rfl, by simp [tv], grown_refl _ _⟩
  case round =>
    obtain ⟨i, cur, hi, rfl, rfl, hr, hcs1, ht, hg⟩ := hrel
    have HR := Lib.hid hr
    have HT := Lib.hid ht
    have HG := Lib.hid hg
    have hcs2 : n ≤ cur.size := by omega
    have HCS := Lib.hid hcs1
    clear hr ht hg hcs1
    by_cases hlt : i < n
    · have hlt2 : (i : Int) < (n : Int) := by omega
      have hge : (0 : Int) ≤ (i : Int) := by omega
      go_wp2_with (go_at_call 31; go_must (refine (markText_any (k0 + i) _ (by omega) (by omega)).mono ?_; rintro e1 w1 ⟨rfl, hg1⟩; have HR1 := Lib.hid (HR.out.grown hg1 (by simp)); have HG1 := Lib.hid (grown_trans HG.out hg1 (by simp)); have hcell2 : w1.cell? ⟨g, i, none⟩ = some (cur[i]'(by omega)) := (by rw [HR1.out.cell]; simp); have hfree : w1.frozen? ⟨g, i, none⟩ = false := HR1.out.free _ (by omega); clear hg1))
      go_roundw
      case rel => exact ⟨i + 1, cur.setIfInBounds i (.string (markT (k0 + i))), by omega, by go_num, by go_num, HR1.out.set_ _ _, by simp [HCS.out], by rw [take_set _ _ _ (by omega), HT.out, tv_take _ _ (by rw [marks_len]; omega), marks_at _ _ _ hlt], grown_set_own HG1.out _ _⟩
      case measure => simp [intOf]; omega
    · have hie : i = n := by omega
      have HI := Lib.hid hie
      clear hie
      go_wp2_with fail
      go_ret
      refine ⟨by rw [← HI.out]; rfl, ⟨cur, HR.out, HCS.out, ?_⟩, HG.out⟩
      have := HT.out
      rwa [HI.out, List.take_of_length_le (l := marks n k0) (by rw [marks_len]; omega)] at this

/-- .. of a slice of the call's own, nil too -/
theorem markStringS_any (lo n c k0 : Nat) (a : Option Addr) (xs : List Value) (w : World) (hn : n ≤ 1073741824) (hk1 : 1 ≤ k0) (hk2 : k0 + n ≤ 1073741824) (ho : Own w lo 9 1 (.slice a n c) n xs) :
    Calls Try.prog 20 #[.slice a n c, .int .i64 k0] w fun e w' => e = .returned (.int .i64 (k0 + n)) ∧
      Own w' lo 9 1 (.slice a n c) n (tv (marks n k0)) ∧ w.grownBy w' (Value.ownBlock (.slice a n c)) := by
  rcases ho.2 with ⟨hv, hn0⟩ | ⟨g, cap, cur, hv, hlo, hr, hnc, hcm, hcs, _⟩
  · injection hv with h1 h2 h3
    subst h1 h2 h3
    refine Calls.mono (R := fun e w' => e = .returned (.int .i64 k0) ∧ w = w') ?_ ?_
    · go_enter Try.func20, Try.ntmps20
      go_wp2_with fail
      go_loopw [1, 5] (fun vk vi wr => vk = .int .i64 k0 ∧ vi = .int .i64 0 ∧ w = wr) (fun _ vi _ => 0)
      case atStart => exact ⟨rfl, rfl, rfl⟩
      case round =>
        obtain ⟨rfl, rfl, rfl⟩ := hrel
        go_wp2_with fail
        go_ret
        exact ⟨rfl, rfl⟩
    · rintro e w' ⟨rfl, rfl⟩
      exact ⟨by simp, by simpa [marks, tv] using Own.nil w lo _ 1, grown_refl _ _⟩
  · injection hv with h1 h2 h3
    subst h1 h3
    refine (markStringS_row g n c k0 cur w hn hk1 hk2 hr (by omega)).mono ?_
    rintro e w' ⟨rfl, ⟨cur', hr', hs', ht'⟩, hg'⟩
    obtain ⟨fr, h, _⟩ := hr
    refine ⟨rfl, ⟨by rw [tv_len, marks_len]; omega, .inr ⟨g, c, cur', rfl, hlo, hr', hnc, hcm, by rw [hs', hcs], by rw [Nat.mul_one]; exact ht'⟩⟩, hg'⟩

/-- marks that lie are found -/
theorem heldStringS_yes (a : Option Addr) (n c k0 : Nat) (w : World) (hn : n ≤ 1073741824) (hk1 : 1 ≤ k0) (hk2 : k0 + n ≤ 1073741824) (h : Lies w a (tv (marks n k0))) :
    Calls Try.prog 21 #[.slice a n c, .int .i64 k0] w fun e w' => e = .returned (.int .i64 (k0 + n)) ∧ w.grownBy w' none := by
  have HL := Lib.hid h
  clear h
  go_enter Try.func21, Try.ntmps21
  go_wp2_with fail
  go_loopw [1, 5] (fun vk vi wr => ∃ i : Nat, i ≤ n ∧ vi = .int .i64 i ∧ vk = .int .i64 (k0 + i) ∧ w.grownBy wr none) (fun _ vi _ => n - (intOf vi).toNat)
  case atStart => exact ⟨0, Nat.zero_le _, rfl, by simp, grown_refl _ _⟩
  case round =>
    obtain ⟨i, hi, rfl, rfl, hg⟩ := hrel
    have HG := Lib.hid hg
    by_cases hlt : i < n
    · obtain ⟨b1, o1, rfl, hb1, hc1⟩ := HL.out.at_ (by rw [tv_len, marks_len]; omega)
      have hcell1 : wr.cell? ⟨b1, o1 + i, none⟩ = some (.string (markT (k0 + i))) := hg.cell (by rw [hc1 i _ (tv_at _ i (by rw [marks_len]; exact hlt)), marks_at _ _ _ hlt]) (by simp)
      have hlt2 : (i : Int) < (n : Int) := by omega
      have hge : (0 : Int) ≤ (i : Int) := by omega
      clear hc1 hg
      go_upto_region 4 with fail
      go_cut [18] (fun s wx => s = .bool false ∧ w.grownBy wx none)
      case first =>
        go_region_with (first | (go_at_call 31; refine (markText_any (k0 + i) _ (by omega) (by omega)).mono ?_; rintro e1 w1 ⟨rfl, hg1⟩; have hcell2 : w1.cell? ⟨b1, o1 + i, none⟩ = some (.string (markT (k0 + i))) := hg1.cell hcell1 (by simp); have HG1 := Lib.hid (grown_trans HG.out (grown_trans (grown_drew (grown_refl wr none)) hg1 (by simp)) (by simp)); clear hg1))
        all_goals (go_wp2_with fail; go_meet)
        all_goals exact ⟨rfl, HG1.out⟩
      case rest =>
        obtain ⟨rfl, hg2⟩ := hcut
        have HG2 := Lib.hid hg2
        clear hg2
        go_wp2_with fail
        go_roundw
        case rel => exact ⟨i + 1, by omega, by go_num, by go_num, HG2.out⟩
        case measure => simp [intOf]; omega
    · have hie : i = n := by omega
      have HI := Lib.hid hie
      clear hie hg
      go_wp2_with fail
      go_ret
      exact ⟨by rw [← HI.out]; rfl, HG.out⟩

end Go.Proofs.Ytopebociobgmhaa

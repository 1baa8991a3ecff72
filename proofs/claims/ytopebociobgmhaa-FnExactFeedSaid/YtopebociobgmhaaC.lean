/-
  Contract of the reference's byte: a walk for each way.
-/
import Derived.Test.YtopebociobgmhaaA
namespace Go.Proofs.Ytopebociobgmhaa
open Go.RowKit

theorem conv_one (n : Nat) (W : World) (b : UInt8) (h : n = W.heap.size) :
    (convert 42 9 (.slice (some ⟨n, 0, none⟩) 1 1)).run Try.prog (W.alloc (.cells #[.int .u8 b.toNat] 5)) = .ok (.string ⟨#[b]⟩) (W.alloc (.cells #[.int .u8 b.toNat] 5)) := by
  subst h
  exact conv_bytes_string _ _ 1 1 [b] rfl (lies_one _ _ _)

theorem str_snoc (buf : List UInt8) (b : UInt8) : (⟨buf.toArray⟩ : ByteArray) ++ (⟨#[b]⟩ : ByteArray) = ⟨(buf ++ [b]).toArray⟩ := by
  apply ByteArray.ext; simp

theorem LL {n : Nat} (h : decide (3000 < (n : Int) + 1) = false) : ¬ 3000 < n + 1 := by simp at h; omega
theorem LG {n : Nat} (h : decide (3000 < (n : Int) + 1) = true) : 3000 < n + 1 := by simp at h; omega

/-- A framer as a value. -/
def fv (f : Fr.F) : Value := .agg #[.string ⟨f.buf.toArray⟩, .int .i64 f.depth, .bool f.quote, .bool f.skip, .bool f.closed]

def LBPost (f : Fr.F) (b : UInt8) (w : World) (e : Ending) (w' : World) : Prop :=
  e = .returned (.tuple #[fv (Fr.sByte f b).1, .bool (Fr.sByte f b).2]) ∧ Below w.heap.size w w'
theorem LBPost.of {f f' : Fr.F} {b : UInt8} {w w' : World} {r : Bool} (h : Fr.sByte f b = (f', r)) (hb : Below w.heap.size w w') : LBPost f b w (.returned (.tuple #[fv f', .bool r])) w' := by
  unfold LBPost; rw [h]; exact ⟨rfl, hb⟩

set_option maxRecDepth 100000 in
set_option maxHeartbeats 400000 in
theorem l02Byte_blank32 (buf : List UInt8) (d : Int) (q k : Bool) (b : UInt8) (w : World) (_hd0 : 0 ≤ d) (_hd : d ≤ 12) (_hs : buf.length ≤ 3000) (e0 : (d == 0) = true)  (b32 : ((b.toNat : Int) == 32) = true) :
    Calls Try.prog 34 #[fv ⟨buf, d, q, k, false⟩, .int .u8 b.toNat] w (LBPost ⟨buf, d, q, k, false⟩ b w) := by
  have hcv := conv_one
  have happ := str_snoc buf b
  unfold fv
  have HSTEP := Lib.hid (show Fr.sByte ⟨buf, d, q, k, false⟩ b = (⟨buf, d, q, k, false⟩, false) from by simp [Fr.sByte, Fr.blank, e0, b32])
  go_enter Try.func34, Try.ntmps34
  go_wp2
  exact bodyPost_ret (v := .tuple #[fv (⟨buf, d, q, k, false⟩), .bool (false)]) (by simp [results, Try.results34, go_sem, fv]) rfl (LBPost.of HSTEP.out (grown_below (by first | exact grown_alloc (grown_alloc (grown_refl _ _) _) _ | exact grown_alloc (grown_alloc (grown_alloc (grown_refl _ _) _) _) _ | exact grown_drew (grown_alloc (grown_alloc (grown_alloc (grown_refl _ _) _) _) _))))
set_option maxRecDepth 100000 in
set_option maxHeartbeats 400000 in
theorem l02Byte_blank9 (buf : List UInt8) (d : Int) (q k : Bool) (b : UInt8) (w : World) (_hd0 : 0 ≤ d) (_hd : d ≤ 12) (_hs : buf.length ≤ 3000) (e0 : (d == 0) = true) (b32 : ((b.toNat : Int) == 32) = false) (b9 : ((b.toNat : Int) == 9) = true) :
    Calls Try.prog 34 #[fv ⟨buf, d, q, k, false⟩, .int .u8 b.toNat] w (LBPost ⟨buf, d, q, k, false⟩ b w) := by
  have hcv := conv_one
  have happ := str_snoc buf b
  unfold fv
  have HSTEP := Lib.hid (show Fr.sByte ⟨buf, d, q, k, false⟩ b = (⟨buf, d, q, k, false⟩, false) from by simp [Fr.sByte, Fr.blank, e0, b32, b9])
  go_enter Try.func34, Try.ntmps34
  go_wp2
  exact bodyPost_ret (v := .tuple #[fv (⟨buf, d, q, k, false⟩), .bool (false)]) (by simp [results, Try.results34, go_sem, fv]) rfl (LBPost.of HSTEP.out (grown_below (by first | exact grown_alloc (grown_alloc (grown_refl _ _) _) _ | exact grown_alloc (grown_alloc (grown_alloc (grown_refl _ _) _) _) _ | exact grown_drew (grown_alloc (grown_alloc (grown_alloc (grown_refl _ _) _) _) _))))
set_option maxRecDepth 100000 in
set_option maxHeartbeats 400000 in
theorem l02Byte_blank10 (buf : List UInt8) (d : Int) (q k : Bool) (b : UInt8) (w : World) (_hd0 : 0 ≤ d) (_hd : d ≤ 12) (_hs : buf.length ≤ 3000) (e0 : (d == 0) = true) (b32 : ((b.toNat : Int) == 32) = false) (b9 : ((b.toNat : Int) == 9) = false) (b10 : ((b.toNat : Int) == 10) = true) :
    Calls Try.prog 34 #[fv ⟨buf, d, q, k, false⟩, .int .u8 b.toNat] w (LBPost ⟨buf, d, q, k, false⟩ b w) := by
  have hcv := conv_one
  have happ := str_snoc buf b
  unfold fv
  have HSTEP := Lib.hid (show Fr.sByte ⟨buf, d, q, k, false⟩ b = (⟨buf, d, q, k, false⟩, false) from by simp [Fr.sByte, Fr.blank, e0, b32, b9, b10])
  go_enter Try.func34, Try.ntmps34
  go_wp2
  exact bodyPost_ret (v := .tuple #[fv (⟨buf, d, q, k, false⟩), .bool (false)]) (by simp [results, Try.results34, go_sem, fv]) rfl (LBPost.of HSTEP.out (grown_below (by first | exact grown_alloc (grown_alloc (grown_refl _ _) _) _ | exact grown_alloc (grown_alloc (grown_alloc (grown_refl _ _) _) _) _ | exact grown_drew (grown_alloc (grown_alloc (grown_alloc (grown_refl _ _) _) _) _))))
set_option maxRecDepth 100000 in
set_option maxHeartbeats 400000 in
theorem l02Byte_blank13 (buf : List UInt8) (d : Int) (q k : Bool) (b : UInt8) (w : World) (_hd0 : 0 ≤ d) (_hd : d ≤ 12) (_hs : buf.length ≤ 3000) (e0 : (d == 0) = true) (b32 : ((b.toNat : Int) == 32) = false) (b9 : ((b.toNat : Int) == 9) = false) (b10 : ((b.toNat : Int) == 10) = false) (b13 : ((b.toNat : Int) == 13) = true) :
    Calls Try.prog 34 #[fv ⟨buf, d, q, k, false⟩, .int .u8 b.toNat] w (LBPost ⟨buf, d, q, k, false⟩ b w) := by
  have hcv := conv_one
  have happ := str_snoc buf b
  unfold fv
  have HSTEP := Lib.hid (show Fr.sByte ⟨buf, d, q, k, false⟩ b = (⟨buf, d, q, k, false⟩, false) from by simp [Fr.sByte, Fr.blank, e0, b32, b9, b10, b13])
  go_enter Try.func34, Try.ntmps34
  go_wp2
  exact bodyPost_ret (v := .tuple #[fv (⟨buf, d, q, k, false⟩), .bool (false)]) (by simp [results, Try.results34, go_sem, fv]) rfl (LBPost.of HSTEP.out (grown_below (by first | exact grown_alloc (grown_alloc (grown_refl _ _) _) _ | exact grown_alloc (grown_alloc (grown_alloc (grown_refl _ _) _) _) _ | exact grown_drew (grown_alloc (grown_alloc (grown_alloc (grown_refl _ _) _) _) _))))
set_option maxRecDepth 100000 in
set_option maxHeartbeats 400000 in
theorem l02Byte_shut (buf : List UInt8) (d : Int) (q k : Bool) (b : UInt8) (w : World) (_hd0 : 0 ≤ d) (_hd : d ≤ 12) (_hs : buf.length ≤ 3000) (e0 : (d == 0) = true) (b32 : ((b.toNat : Int) == 32) = false) (b9 : ((b.toNat : Int) == 9) = false) (b10 : ((b.toNat : Int) == 10) = false) (b13 : ((b.toNat : Int) == 13) = false) (n123 : ((b.toNat : Int) != 123) = true) (n91 : ((b.toNat : Int) != 91) = true) :
    Calls Try.prog 34 #[fv ⟨buf, d, q, k, false⟩, .int .u8 b.toNat] w (LBPost ⟨buf, d, q, k, false⟩ b w) := by
  have hcv := conv_one
  have happ := str_snoc buf b
  unfold fv
  have HSTEP := Lib.hid (show Fr.sByte ⟨buf, d, q, k, false⟩ b = (Fr.F.shut, false) from by simp [Fr.sByte, Fr.blank, e0, b32, b9, b10, b13, n123, n91])
  go_enter Try.func34, Try.ntmps34
  go_wp2
  exact bodyPost_ret (v := .tuple #[fv (Fr.F.shut), .bool (false)]) (by simp [results, Try.results34, go_sem, fv, Fr.F.shut]) rfl (LBPost.of HSTEP.out (grown_below (by first | exact grown_alloc (grown_alloc (grown_refl _ _) _) _ | exact grown_alloc (grown_alloc (grown_alloc (grown_refl _ _) _) _) _ | exact grown_drew (grown_alloc (grown_alloc (grown_alloc (grown_refl _ _) _) _) _))))
set_option maxRecDepth 100000 in
set_option maxHeartbeats 400000 in
theorem l02Byte_open123 (buf : List UInt8) (d : Int) (q k : Bool) (b : UInt8) (w : World) (_hd0 : 0 ≤ d) (_hd : d ≤ 12) (_hs : buf.length ≤ 3000) (e0 : (d == 0) = true) (b32 : ((b.toNat : Int) == 32) = false) (b9 : ((b.toNat : Int) == 9) = false) (b10 : ((b.toNat : Int) == 10) = false) (b13 : ((b.toNat : Int) == 13) = false) (n123 : ((b.toNat : Int) != 123) = false) (hl : decide (3000 < (buf.length : Int) + 1) = false) (hq : q = false) (hk : k = false) (e34 : ((b.toNat : Int) == 34) = false) (h12 : decide (12 < d + 1) = false) (e123 : ((b.toNat : Int) == 123) = true) :
    Calls Try.prog 34 #[fv ⟨buf, d, q, k, false⟩, .int .u8 b.toNat] w (LBPost ⟨buf, d, q, k, false⟩ b w) := by
  have hcv := conv_one
  have happ := str_snoc buf b
  unfold fv
  have HSTEP := Lib.hid (show Fr.sByte ⟨buf, d, q, k, false⟩ b = (⟨(buf ++ [b]), d + 1, q, k, false⟩, false) from by simp [Fr.sByte, Fr.blank, e0, b32, b9, b10, b13, n123, LL hl, hq, hk, e34, of_decide_eq_false h12, e123])
  go_enter Try.func34, Try.ntmps34
  go_wp2
  exact bodyPost_ret (v := .tuple #[fv (⟨(buf ++ [b]), d + 1, q, k, false⟩), .bool (false)]) (by simp [results, Try.results34, go_sem, fv, hq, hk]) rfl (LBPost.of HSTEP.out (grown_below (by first | exact grown_alloc (grown_alloc (grown_refl _ _) _) _ | exact grown_alloc (grown_alloc (grown_alloc (grown_refl _ _) _) _) _ | exact grown_drew (grown_alloc (grown_alloc (grown_alloc (grown_refl _ _) _) _) _))))
set_option maxRecDepth 100000 in
set_option maxHeartbeats 400000 in
theorem l02Byte_open91 (buf : List UInt8) (d : Int) (q k : Bool) (b : UInt8) (w : World) (_hd0 : 0 ≤ d) (_hd : d ≤ 12) (_hs : buf.length ≤ 3000) (e0 : (d == 0) = true) (b32 : ((b.toNat : Int) == 32) = false) (b9 : ((b.toNat : Int) == 9) = false) (b10 : ((b.toNat : Int) == 10) = false) (b13 : ((b.toNat : Int) == 13) = false) (n123 : ((b.toNat : Int) != 123) = true) (n91 : ((b.toNat : Int) != 91) = false) (hl : decide (3000 < (buf.length : Int) + 1) = false) (hq : q = false) (hk : k = false) (e34 : ((b.toNat : Int) == 34) = false) (h12 : decide (12 < d + 1) = false) (e123 : ((b.toNat : Int) == 123) = false) (e91 : ((b.toNat : Int) == 91) = true) :
    Calls Try.prog 34 #[fv ⟨buf, d, q, k, false⟩, .int .u8 b.toNat] w (LBPost ⟨buf, d, q, k, false⟩ b w) := by
  have hcv := conv_one
  have happ := str_snoc buf b
  unfold fv
  have HSTEP := Lib.hid (show Fr.sByte ⟨buf, d, q, k, false⟩ b = (⟨(buf ++ [b]), d + 1, q, k, false⟩, false) from by simp [Fr.sByte, Fr.blank, e0, b32, b9, b10, b13, n123, n91, LL hl, hq, hk, e34, of_decide_eq_false h12, e123, e91])
  go_enter Try.func34, Try.ntmps34
  go_wp2
  exact bodyPost_ret (v := .tuple #[fv (⟨(buf ++ [b]), d + 1, q, k, false⟩), .bool (false)]) (by simp [results, Try.results34, go_sem, fv, hq, hk]) rfl (LBPost.of HSTEP.out (grown_below (by first | exact grown_alloc (grown_alloc (grown_refl _ _) _) _ | exact grown_alloc (grown_alloc (grown_alloc (grown_refl _ _) _) _) _ | exact grown_drew (grown_alloc (grown_alloc (grown_alloc (grown_refl _ _) _) _) _))))
set_option maxRecDepth 100000 in
set_option maxHeartbeats 400000 in
theorem l02Byte_long (buf : List UInt8) (d : Int) (q k : Bool) (b : UInt8) (w : World) (_hd0 : 0 ≤ d) (_hd : d ≤ 12) (_hs : buf.length ≤ 3000) (e0 : (d == 0) = false) (hl : decide (3000 < (buf.length : Int) + 1) = true) :
    Calls Try.prog 34 #[fv ⟨buf, d, q, k, false⟩, .int .u8 b.toNat] w (LBPost ⟨buf, d, q, k, false⟩ b w) := by
  have hcv := conv_one
  have happ := str_snoc buf b
  unfold fv
  have HSTEP := Lib.hid (show Fr.sByte ⟨buf, d, q, k, false⟩ b = (Fr.F.shut, false) from by simp [Fr.sByte, Fr.blank, e0, LG hl])
  go_enter Try.func34, Try.ntmps34
  go_wp2
  exact bodyPost_ret (v := .tuple #[fv (Fr.F.shut), .bool (false)]) (by simp [results, Try.results34, go_sem, fv, Fr.F.shut]) rfl (LBPost.of HSTEP.out (grown_below (by first | exact grown_alloc (grown_alloc (grown_refl _ _) _) _ | exact grown_alloc (grown_alloc (grown_alloc (grown_refl _ _) _) _) _ | exact grown_drew (grown_alloc (grown_alloc (grown_alloc (grown_refl _ _) _) _) _))))
set_option maxRecDepth 100000 in
set_option maxHeartbeats 400000 in
theorem l02Byte_skip (buf : List UInt8) (d : Int) (q k : Bool) (b : UInt8) (w : World) (_hd0 : 0 ≤ d) (_hd : d ≤ 12) (_hs : buf.length ≤ 3000) (e0 : (d == 0) = false) (hl : decide (3000 < (buf.length : Int) + 1) = false) (hk : k = true) :
    Calls Try.prog 34 #[fv ⟨buf, d, q, k, false⟩, .int .u8 b.toNat] w (LBPost ⟨buf, d, q, k, false⟩ b w) := by
  have hcv := conv_one
  have happ := str_snoc buf b
  unfold fv
  have HSTEP := Lib.hid (show Fr.sByte ⟨buf, d, q, k, false⟩ b = (⟨(buf ++ [b]), d, q, false, false⟩, false) from by simp [Fr.sByte, Fr.blank, e0, LL hl, hk])
  go_enter Try.func34, Try.ntmps34
  go_wp2
  exact bodyPost_ret (v := .tuple #[fv (⟨(buf ++ [b]), d, q, false, false⟩), .bool (false)]) (by simp [results, Try.results34, go_sem, fv, hk]) rfl (LBPost.of HSTEP.out (grown_below (by first | exact grown_alloc (grown_alloc (grown_refl _ _) _) _ | exact grown_alloc (grown_alloc (grown_alloc (grown_refl _ _) _) _) _ | exact grown_drew (grown_alloc (grown_alloc (grown_alloc (grown_refl _ _) _) _) _))))
set_option maxRecDepth 100000 in
set_option maxHeartbeats 400000 in
theorem l02Byte_q92 (buf : List UInt8) (d : Int) (q k : Bool) (b : UInt8) (w : World) (_hd0 : 0 ≤ d) (_hd : d ≤ 12) (_hs : buf.length ≤ 3000) (e0 : (d == 0) = false) (hl : decide (3000 < (buf.length : Int) + 1) = false) (hk : k = false) (hq : q = true) (e92 : ((b.toNat : Int) == 92) = true) :
    Calls Try.prog 34 #[fv ⟨buf, d, q, k, false⟩, .int .u8 b.toNat] w (LBPost ⟨buf, d, q, k, false⟩ b w) := by
  have hcv := conv_one
  have happ := str_snoc buf b
  unfold fv
  have HSTEP := Lib.hid (show Fr.sByte ⟨buf, d, q, k, false⟩ b = (⟨(buf ++ [b]), d, q, true, false⟩, false) from by simp [Fr.sByte, Fr.blank, e0, LL hl, hk, hq, e92])
  go_enter Try.func34, Try.ntmps34
  go_wp2
  exact bodyPost_ret (v := .tuple #[fv (⟨(buf ++ [b]), d, q, true, false⟩), .bool (false)]) (by simp [results, Try.results34, go_sem, fv, hq, hk]) rfl (LBPost.of HSTEP.out (grown_below (by first | exact grown_alloc (grown_alloc (grown_refl _ _) _) _ | exact grown_alloc (grown_alloc (grown_alloc (grown_refl _ _) _) _) _ | exact grown_drew (grown_alloc (grown_alloc (grown_alloc (grown_refl _ _) _) _) _))))
set_option maxRecDepth 100000 in
set_option maxHeartbeats 400000 in
theorem l02Byte_q34 (buf : List UInt8) (d : Int) (q k : Bool) (b : UInt8) (w : World) (_hd0 : 0 ≤ d) (_hd : d ≤ 12) (_hs : buf.length ≤ 3000) (e0 : (d == 0) = false) (hl : decide (3000 < (buf.length : Int) + 1) = false) (hk : k = false) (hq : q = true) (e92 : ((b.toNat : Int) == 92) = false) (e34 : ((b.toNat : Int) == 34) = true) :
    Calls Try.prog 34 #[fv ⟨buf, d, q, k, false⟩, .int .u8 b.toNat] w (LBPost ⟨buf, d, q, k, false⟩ b w) := by
  have hcv := conv_one
  have happ := str_snoc buf b
  unfold fv
  have HSTEP := Lib.hid (show Fr.sByte ⟨buf, d, q, k, false⟩ b = (⟨(buf ++ [b]), d, false, k, false⟩, false) from by simp [Fr.sByte, Fr.blank, e0, LL hl, hk, hq, e92, e34])
  go_enter Try.func34, Try.ntmps34
  go_wp2
  exact bodyPost_ret (v := .tuple #[fv (⟨(buf ++ [b]), d, false, k, false⟩), .bool (false)]) (by simp [results, Try.results34, go_sem, fv, hq, hk]) rfl (LBPost.of HSTEP.out (grown_below (by first | exact grown_alloc (grown_alloc (grown_refl _ _) _) _ | exact grown_alloc (grown_alloc (grown_alloc (grown_refl _ _) _) _) _ | exact grown_drew (grown_alloc (grown_alloc (grown_alloc (grown_refl _ _) _) _) _))))
set_option maxRecDepth 100000 in
set_option maxHeartbeats 400000 in
theorem l02Byte_qother (buf : List UInt8) (d : Int) (q k : Bool) (b : UInt8) (w : World) (_hd0 : 0 ≤ d) (_hd : d ≤ 12) (_hs : buf.length ≤ 3000) (e0 : (d == 0) = false) (hl : decide (3000 < (buf.length : Int) + 1) = false) (hk : k = false) (hq : q = true) (e92 : ((b.toNat : Int) == 92) = false) (e34 : ((b.toNat : Int) == 34) = false) :
    Calls Try.prog 34 #[fv ⟨buf, d, q, k, false⟩, .int .u8 b.toNat] w (LBPost ⟨buf, d, q, k, false⟩ b w) := by
  have hcv := conv_one
  have happ := str_snoc buf b
  unfold fv
  have HSTEP := Lib.hid (show Fr.sByte ⟨buf, d, q, k, false⟩ b = (⟨(buf ++ [b]), d, q, k, false⟩, false) from by simp [Fr.sByte, Fr.blank, e0, LL hl, hk, hq, e92, e34])
  go_enter Try.func34, Try.ntmps34
  go_wp2
  exact bodyPost_ret (v := .tuple #[fv (⟨(buf ++ [b]), d, q, k, false⟩), .bool (false)]) (by simp [results, Try.results34, go_sem, fv, hq, hk]) rfl (LBPost.of HSTEP.out (grown_below (by first | exact grown_alloc (grown_alloc (grown_refl _ _) _) _ | exact grown_alloc (grown_alloc (grown_alloc (grown_refl _ _) _) _) _ | exact grown_drew (grown_alloc (grown_alloc (grown_alloc (grown_refl _ _) _) _) _))))
set_option maxRecDepth 100000 in
set_option maxHeartbeats 400000 in
theorem l02Byte_n34 (buf : List UInt8) (d : Int) (q k : Bool) (b : UInt8) (w : World) (_hd0 : 0 ≤ d) (_hd : d ≤ 12) (_hs : buf.length ≤ 3000) (e0 : (d == 0) = false) (hl : decide (3000 < (buf.length : Int) + 1) = false) (hk : k = false) (hq : q = false) (e34 : ((b.toNat : Int) == 34) = true) :
    Calls Try.prog 34 #[fv ⟨buf, d, q, k, false⟩, .int .u8 b.toNat] w (LBPost ⟨buf, d, q, k, false⟩ b w) := by
  have hcv := conv_one
  have happ := str_snoc buf b
  unfold fv
  have HSTEP := Lib.hid (show Fr.sByte ⟨buf, d, q, k, false⟩ b = (⟨(buf ++ [b]), d, true, k, false⟩, false) from by simp [Fr.sByte, Fr.blank, e0, LL hl, hk, hq, e34])
  go_enter Try.func34, Try.ntmps34
  go_wp2
  exact bodyPost_ret (v := .tuple #[fv (⟨(buf ++ [b]), d, true, k, false⟩), .bool (false)]) (by simp [results, Try.results34, go_sem, fv, hq, hk]) rfl (LBPost.of HSTEP.out (grown_below (by first | exact grown_alloc (grown_alloc (grown_refl _ _) _) _ | exact grown_alloc (grown_alloc (grown_alloc (grown_refl _ _) _) _) _ | exact grown_drew (grown_alloc (grown_alloc (grown_alloc (grown_refl _ _) _) _) _))))
set_option maxRecDepth 100000 in
set_option maxHeartbeats 400000 in
theorem l02Byte_in123 (buf : List UInt8) (d : Int) (q k : Bool) (b : UInt8) (w : World) (_hd0 : 0 ≤ d) (_hd : d ≤ 12) (_hs : buf.length ≤ 3000) (e0 : (d == 0) = false) (hl : decide (3000 < (buf.length : Int) + 1) = false) (hk : k = false) (hq : q = false) (e34 : ((b.toNat : Int) == 34) = false) (e123 : ((b.toNat : Int) == 123) = true) (h12 : decide (12 < d + 1) = false) :
    Calls Try.prog 34 #[fv ⟨buf, d, q, k, false⟩, .int .u8 b.toNat] w (LBPost ⟨buf, d, q, k, false⟩ b w) := by
  have hcv := conv_one
  have happ := str_snoc buf b
  unfold fv
  have HSTEP := Lib.hid (show Fr.sByte ⟨buf, d, q, k, false⟩ b = (⟨(buf ++ [b]), d + 1, q, k, false⟩, false) from by simp [Fr.sByte, Fr.blank, e0, LL hl, hk, hq, e34, e123, of_decide_eq_false h12])
  go_enter Try.func34, Try.ntmps34
  go_wp2
  exact bodyPost_ret (v := .tuple #[fv (⟨(buf ++ [b]), d + 1, q, k, false⟩), .bool (false)]) (by simp [results, Try.results34, go_sem, fv, hq, hk]) rfl (LBPost.of HSTEP.out (grown_below (by first | exact grown_alloc (grown_alloc (grown_refl _ _) _) _ | exact grown_alloc (grown_alloc (grown_alloc (grown_refl _ _) _) _) _ | exact grown_drew (grown_alloc (grown_alloc (grown_alloc (grown_refl _ _) _) _) _))))
set_option maxRecDepth 100000 in
set_option maxHeartbeats 400000 in
theorem l02Byte_deep123 (buf : List UInt8) (d : Int) (q k : Bool) (b : UInt8) (w : World) (_hd0 : 0 ≤ d) (_hd : d ≤ 12) (_hs : buf.length ≤ 3000) (e0 : (d == 0) = false) (hl : decide (3000 < (buf.length : Int) + 1) = false) (hk : k = false) (hq : q = false) (e34 : ((b.toNat : Int) == 34) = false) (e123 : ((b.toNat : Int) == 123) = true) (h12 : decide (12 < d + 1) = true) :
    Calls Try.prog 34 #[fv ⟨buf, d, q, k, false⟩, .int .u8 b.toNat] w (LBPost ⟨buf, d, q, k, false⟩ b w) := by
  have hcv := conv_one
  have happ := str_snoc buf b
  unfold fv
  have HSTEP := Lib.hid (show Fr.sByte ⟨buf, d, q, k, false⟩ b = (Fr.F.shut, false) from by simp [Fr.sByte, Fr.blank, e0, LL hl, hk, hq, e34, e123, of_decide_eq_true h12])
  go_enter Try.func34, Try.ntmps34
  go_wp2
  exact bodyPost_ret (v := .tuple #[fv (Fr.F.shut), .bool (false)]) (by simp [results, Try.results34, go_sem, fv, Fr.F.shut, hq, hk]) rfl (LBPost.of HSTEP.out (grown_below (by first | exact grown_alloc (grown_alloc (grown_refl _ _) _) _ | exact grown_alloc (grown_alloc (grown_alloc (grown_refl _ _) _) _) _ | exact grown_drew (grown_alloc (grown_alloc (grown_alloc (grown_refl _ _) _) _) _))))
set_option maxRecDepth 100000 in
set_option maxHeartbeats 400000 in
theorem l02Byte_in91 (buf : List UInt8) (d : Int) (q k : Bool) (b : UInt8) (w : World) (_hd0 : 0 ≤ d) (_hd : d ≤ 12) (_hs : buf.length ≤ 3000) (e0 : (d == 0) = false) (hl : decide (3000 < (buf.length : Int) + 1) = false) (hk : k = false) (hq : q = false) (e34 : ((b.toNat : Int) == 34) = false) (e123 : ((b.toNat : Int) == 123) = false) (e91 : ((b.toNat : Int) == 91) = true) (h12 : decide (12 < d + 1) = false) :
    Calls Try.prog 34 #[fv ⟨buf, d, q, k, false⟩, .int .u8 b.toNat] w (LBPost ⟨buf, d, q, k, false⟩ b w) := by
  have hcv := conv_one
  have happ := str_snoc buf b
  unfold fv
  have HSTEP := Lib.hid (show Fr.sByte ⟨buf, d, q, k, false⟩ b = (⟨(buf ++ [b]), d + 1, q, k, false⟩, false) from by simp [Fr.sByte, Fr.blank, e0, LL hl, hk, hq, e34, e123, e91, of_decide_eq_false h12])
  go_enter Try.func34, Try.ntmps34
  go_wp2
  exact bodyPost_ret (v := .tuple #[fv (⟨(buf ++ [b]), d + 1, q, k, false⟩), .bool (false)]) (by simp [results, Try.results34, go_sem, fv, hq, hk]) rfl (LBPost.of HSTEP.out (grown_below (by first | exact grown_alloc (grown_alloc (grown_refl _ _) _) _ | exact grown_alloc (grown_alloc (grown_alloc (grown_refl _ _) _) _) _ | exact grown_drew (grown_alloc (grown_alloc (grown_alloc (grown_refl _ _) _) _) _))))
set_option maxRecDepth 100000 in
set_option maxHeartbeats 400000 in
theorem l02Byte_deep91 (buf : List UInt8) (d : Int) (q k : Bool) (b : UInt8) (w : World) (_hd0 : 0 ≤ d) (_hd : d ≤ 12) (_hs : buf.length ≤ 3000) (e0 : (d == 0) = false) (hl : decide (3000 < (buf.length : Int) + 1) = false) (hk : k = false) (hq : q = false) (e34 : ((b.toNat : Int) == 34) = false) (e123 : ((b.toNat : Int) == 123) = false) (e91 : ((b.toNat : Int) == 91) = true) (h12 : decide (12 < d + 1) = true) :
    Calls Try.prog 34 #[fv ⟨buf, d, q, k, false⟩, .int .u8 b.toNat] w (LBPost ⟨buf, d, q, k, false⟩ b w) := by
  have hcv := conv_one
  have happ := str_snoc buf b
  unfold fv
  have HSTEP := Lib.hid (show Fr.sByte ⟨buf, d, q, k, false⟩ b = (Fr.F.shut, false) from by simp [Fr.sByte, Fr.blank, e0, LL hl, hk, hq, e34, e123, e91, of_decide_eq_true h12])
  go_enter Try.func34, Try.ntmps34
  go_wp2
  exact bodyPost_ret (v := .tuple #[fv (Fr.F.shut), .bool (false)]) (by simp [results, Try.results34, go_sem, fv, Fr.F.shut, hq, hk]) rfl (LBPost.of HSTEP.out (grown_below (by first | exact grown_alloc (grown_alloc (grown_refl _ _) _) _ | exact grown_alloc (grown_alloc (grown_alloc (grown_refl _ _) _) _) _ | exact grown_drew (grown_alloc (grown_alloc (grown_alloc (grown_refl _ _) _) _) _))))
set_option maxRecDepth 100000 in
set_option maxHeartbeats 400000 in
theorem l02Byte_out125 (buf : List UInt8) (d : Int) (q k : Bool) (b : UInt8) (w : World) (_hd0 : 0 ≤ d) (_hd : d ≤ 12) (_hs : buf.length ≤ 3000) (e0 : (d == 0) = false) (hl : decide (3000 < (buf.length : Int) + 1) = false) (hk : k = false) (hq : q = false) (e34 : ((b.toNat : Int) == 34) = false) (e123 : ((b.toNat : Int) == 123) = false) (e91 : ((b.toNat : Int) == 91) = false) (e125 : ((b.toNat : Int) == 125) = true) :
    Calls Try.prog 34 #[fv ⟨buf, d, q, k, false⟩, .int .u8 b.toNat] w (LBPost ⟨buf, d, q, k, false⟩ b w) := by
  have hcv := conv_one
  have happ := str_snoc buf b
  unfold fv
  have HSTEP := Lib.hid (show Fr.sByte ⟨buf, d, q, k, false⟩ b = (⟨(buf ++ [b]), d - 1, q, k, false⟩, d - 1 == 0) from by simp [Fr.sByte, Fr.blank, e0, LL hl, hk, hq, e34, e123, e91, e125])
  go_enter Try.func34, Try.ntmps34
  go_wp2
  go_region
  all_goals (go_wp2; exact bodyPost_ret (v := .tuple #[fv (⟨(buf ++ [b]), d - 1, q, k, false⟩), .bool (d - 1 == 0)]) (by simp [results, Try.results34, go_sem, fv, hq, hk]) rfl (LBPost.of HSTEP.out (grown_below (by first | exact grown_alloc (grown_alloc (grown_refl _ _) _) _ | exact grown_alloc (grown_alloc (grown_alloc (grown_refl _ _) _) _) _ | exact grown_drew (grown_alloc (grown_alloc (grown_alloc (grown_refl _ _) _) _) _)))))
set_option maxRecDepth 100000 in
set_option maxHeartbeats 400000 in
theorem l02Byte_out93 (buf : List UInt8) (d : Int) (q k : Bool) (b : UInt8) (w : World) (_hd0 : 0 ≤ d) (_hd : d ≤ 12) (_hs : buf.length ≤ 3000) (e0 : (d == 0) = false) (hl : decide (3000 < (buf.length : Int) + 1) = false) (hk : k = false) (hq : q = false) (e34 : ((b.toNat : Int) == 34) = false) (e123 : ((b.toNat : Int) == 123) = false) (e91 : ((b.toNat : Int) == 91) = false) (e125 : ((b.toNat : Int) == 125) = false) (e93 : ((b.toNat : Int) == 93) = true) :
    Calls Try.prog 34 #[fv ⟨buf, d, q, k, false⟩, .int .u8 b.toNat] w (LBPost ⟨buf, d, q, k, false⟩ b w) := by
  have hcv := conv_one
  have happ := str_snoc buf b
  unfold fv
  have HSTEP := Lib.hid (show Fr.sByte ⟨buf, d, q, k, false⟩ b = (⟨(buf ++ [b]), d - 1, q, k, false⟩, d - 1 == 0) from by simp [Fr.sByte, Fr.blank, e0, LL hl, hk, hq, e34, e123, e91, e125, e93])
  go_enter Try.func34, Try.ntmps34
  go_wp2
  go_region
  all_goals (go_wp2; exact bodyPost_ret (v := .tuple #[fv (⟨(buf ++ [b]), d - 1, q, k, false⟩), .bool (d - 1 == 0)]) (by simp [results, Try.results34, go_sem, fv, hq, hk]) rfl (LBPost.of HSTEP.out (grown_below (by first | exact grown_alloc (grown_alloc (grown_refl _ _) _) _ | exact grown_alloc (grown_alloc (grown_alloc (grown_refl _ _) _) _) _ | exact grown_drew (grown_alloc (grown_alloc (grown_alloc (grown_refl _ _) _) _) _)))))
set_option maxRecDepth 100000 in
set_option maxHeartbeats 400000 in
theorem l02Byte_other (buf : List UInt8) (d : Int) (q k : Bool) (b : UInt8) (w : World) (_hd0 : 0 ≤ d) (_hd : d ≤ 12) (_hs : buf.length ≤ 3000) (e0 : (d == 0) = false) (hl : decide (3000 < (buf.length : Int) + 1) = false) (hk : k = false) (hq : q = false) (e34 : ((b.toNat : Int) == 34) = false) (e123 : ((b.toNat : Int) == 123) = false) (e91 : ((b.toNat : Int) == 91) = false) (e125 : ((b.toNat : Int) == 125) = false) (e93 : ((b.toNat : Int) == 93) = false) :
    Calls Try.prog 34 #[fv ⟨buf, d, q, k, false⟩, .int .u8 b.toNat] w (LBPost ⟨buf, d, q, k, false⟩ b w) := by
  have hcv := conv_one
  have happ := str_snoc buf b
  unfold fv
  have HSTEP := Lib.hid (show Fr.sByte ⟨buf, d, q, k, false⟩ b = (⟨(buf ++ [b]), d, q, k, false⟩, false) from by simp [Fr.sByte, Fr.blank, e0, LL hl, hk, hq, e34, e123, e91, e125, e93])
  go_enter Try.func34, Try.ntmps34
  go_wp2
  exact bodyPost_ret (v := .tuple #[fv (⟨(buf ++ [b]), d, q, k, false⟩), .bool (false)]) (by simp [results, Try.results34, go_sem, fv, hq, hk]) rfl (LBPost.of HSTEP.out (grown_below (by first | exact grown_alloc (grown_alloc (grown_refl _ _) _) _ | exact grown_alloc (grown_alloc (grown_alloc (grown_refl _ _) _) _) _ | exact grown_drew (grown_alloc (grown_alloc (grown_alloc (grown_refl _ _) _) _) _))))

end Go.Proofs.Ytopebociobgmhaa

/-
  The two readers agree: objects' fields, and the whole.
  The two readers agree: the whole.
  A text that is drawn.
  The law's helpers: a number, two lists of texts.
  What the law FnJson calls, at right values.
  The program's SameJson, of a value and itself.
  From a contract to the given statement: arguments that are slices of bytes.
-/
import Derived.Test.YtfncaghjfgnnhaaGreatDoorPyAj
import Derived.ProofKit
import Derived.ChangeSlices
namespace Go.Proofs.YtfncaghjfgnnhaaGreatDoor
open Go.RowKit
set_option maxRecDepth 100000
theorem want_off {b : UInt8} {s : List UInt8} {c : Bool} {m : Int} (h : ((RS.mk s c m).want [b]).bad = false) : c = false ∧ hdB b s = true := by
 cases c with
 | true => rw [want_bad _ _ rfl] at h; cases h
 | false => rw [rwant] at h; exact ⟨rfl, by simpa using h⟩
theorem fld_fwd {k : Nat} (IH : FWD k) {A : KM} {B : KL} (hI : Inv (12 - (k : Nat)) A B) {s : List UInt8} {m : Int} {s1 : List UInt8} {m1 : Int} {A1 : KM} (h : objStep (iVal k) ⟨s, false, m⟩ A = (⟨s1, false, m1⟩, A1)) :
  ∃ key v, key ∉ B.ks ∧ plainT key = true ∧ RD v (12 - (k : Nat)) ∧ sField (sVal k) ⟨s, 400 - m, true⟩ B = (⟨s1, 400 - m1, true⟩, kIns key v B) ∧ A1 = ⟨A.ks ++ [key], kvPut key v A.m⟩ ∧ m1 + jn v = m ∧ 0 ≤ m1 ∧ (escL key).length + 3 + (pj v).length + s1.length ≤ s.length := by
 have e : objStep (iVal k) ⟨s, false, m⟩ A = (⟨(iVal k ((RS.mk (txtE (!hdB 34 s) (hdS 34 s)).2.2 (txtE (!hdB 34 s) (hdS 34 s)).2.1 m).want [58])).2.s, (iVal k ((RS.mk (txtE (!hdB 34 s) (hdS 34 s)).2.2 (txtE (!hdB 34 s) (hdS 34 s)).2.1 m).want [58])).2.bad || (kvGet (txtE (!hdB 34 s) (hdS 34 s)).1 A.m).isSome, (iVal k ((RS.mk (txtE (!hdB 34 s) (hdS 34 s)).2.2 (txtE (!hdB 34 s) (hdS 34 s)).2.1 m).want [58])).2.room⟩, ⟨A.ks ++ [(txtE (!hdB 34 s) (hdS 34 s)).1], kvPut (txtE (!hdB 34 s) (hdS 34 s)).1 (iVal k ((RS.mk (txtE (!hdB 34 s) (hdS 34 s)).2.2 (txtE (!hdB 34 s) (hdS 34 s)).2.1 m).want [58])).1 A.m⟩) := by
  unfold objStep
  rw [rwant]
 rw [e] at h
 clear e
 have hoff : ((RS.mk (txtE (!hdB 34 s) (hdS 34 s)).2.2 (txtE (!hdB 34 s) (hdS 34 s)).2.1 m).want [58]).bad = false := by
  cases hb : ((RS.mk (txtE (!hdB 34 s) (hdS 34 s)).2.2 (txtE (!hdB 34 s) (hdS 34 s)).2.1 m).want [58]).bad with
  | false => rfl
  | true => rw [iVal_bad k _ (.inl hb)] at h; simp at h
 obtain ⟨h1, h2⟩ := want_off hoff
 have h34 : hdB 34 s = true := by
  cases hh : hdB 34 s with
  | true => rfl
  | false => rw [hh] at h1; rw [show (!false) = true from rfl, txtE_bad] at h1; cases h1
 rw [h34, show (!true) = false from rfl] at h h1 h2
 cases ht : txtE false (hdS 34 s) with
 | mk key z =>
 obtain ⟨b, s2⟩ := z
 rw [ht] at h h1 h2
 simp only at h h1 h2
 subst h1
 obtain ⟨t1, t2, t3⟩ := txtE_fwd ht
 rw [rwant, h2, show (!true) = false from rfl] at h
 have fw := IH (hdS 58 s2) m
 generalize iVal k ⟨hdS 58 s2, false, m⟩ = y at *
 obtain ⟨v, ⟨a, b, c⟩⟩ := y
 simp only [Prod.mk.injEq, RS.mk.injEq, Bool.or_eq_false_iff] at h
 obtain ⟨⟨rfl, ⟨rfl, hg⟩, rfl⟩, rfl⟩ := h
 obtain ⟨sv, rd, hj, h0, hl⟩ := fw v a c rfl
 have hk : key ∉ B.ks := fun hm => by
  have := (hI.mem key).2 (hI.perm.mem_iff.1 hm)
  rw [hg] at this; cases this
 have hdup : kDup key B.ks = false := by
  cases hd : kDup key B.ks with
  | false => rfl
  | true => exact absurd (dup_mem hd) hk
 have l1 := hdS_lt h34
 have l2 := hdS_lt h2
 refine ⟨key, v, hk, t1, rd, ?_, rfl, hj, h0, by omega⟩
 unfold sField SS.nd
 simp only [h34, Bool.true_and, t3, h2, sv, hdup]
 rfl
def osz : List (List UInt8) → List J → Nat
 | k :: ks, x :: its => (quo k).length + 2 + (pj x).length + osz ks its
 | _, _ => 0
theorem osz_app : ∀ (a : List (List UInt8)) (c : List J) (b : List (List UInt8)) (d : List J), a.length = c.length → osz (a ++ b) (c ++ d) = osz a c + osz b d
 | [], [], b, d, _ => by simp [osz]
 | [], _ :: _, b, d, h => by simp at h
 | _ :: _, [], b, d, h => by simp at h
 | k :: a, x :: c, b, d, h => by
  rw [List.cons_append, List.cons_append, osz, osz, osz_app a c b d (by simpa using h)]; omega
theorem osz_ins (key : List UInt8) (v : J) (B : KL) (h : B.ks.length = B.its.length) : osz (kIns key v B).ks (kIns key v B).its = osz B.ks B.its + ((quo key).length + 2 + (pj v).length) := by
 have e := osz_app (B.ks.take (kPos key B.ks)) (B.its.take (kPos key B.ks)) (B.ks.drop (kPos key B.ks)) (B.its.drop (kPos key B.ks)) (by simp [h])
 rw [List.take_append_drop, List.take_append_drop] at e
 show osz (B.ks.take (kPos key B.ks) ++ key :: B.ks.drop (kPos key B.ks)) (B.its.take (kPos key B.ks) ++ v :: B.its.drop (kPos key B.ks)) = _
 rw [osz_app _ _ _ _ (by simp [h]), osz, e]; omega
theorem jns_app : ∀ a b : List J, jns (a ++ b) = jns a + jns b
 | [], b => by simp [jns]
 | x :: a, b => by rw [List.cons_append, jns, jns, jns_app a b]; omega
theorem jns_ins (key : List UInt8) (v : J) (B : KL) : jns (kIns key v B).its = jns B.its + jn v := by
 have e := jns_app (B.its.take (kPos key B.ks)) (B.its.drop (kPos key B.ks))
 rw [List.take_append_drop] at e
 show jns (B.its.take (kPos key B.ks) ++ v :: B.its.drop (kPos key B.ks)) = _
 rw [jns_app, jns, e]; omega
theorem prt_t_len (key : List UInt8) (x : J) : (prt true key x).length = (quo key).length + 1 + (pj x).length := by unfold prt; simp; omega
theorem pjs_osz : ∀ (its : List J) (ks : List (List UInt8)), ks.length = its.length → (pjs true false ks its).length = osz ks its
 | [], [], _ => by rw [pjs]; rfl
 | [], _ :: _, h => by simp at h
 | _ :: _, [], h => by simp at h
 | x :: its, k :: ks, h => by
  rw [pjs_one, osz, List.length_cons, List.length_append, List.headD_cons, List.tail_cons, prt_t_len, pjs_osz its ks (by simpa using h)]; omega
theorem pjs_osz1 {its : List J} {ks : List (List UInt8)} (h : ks.length = its.length) (hn : its ≠ []) : (pjs true true ks its).length + 1 = osz ks its := by
 cases its with
 | nil => exact absurd rfl hn
 | cons x its =>
  cases ks with
  | nil => simp at h
  | cons k ks =>
   rw [pjs_fst, osz, List.length_append, List.headD_cons, List.tail_cons, prt_t_len, pjs_osz its ks (by simpa using h)]; omega
theorem quo_len' (k : List UInt8) : (quo k).length = (escL k).length + 2 := by unfold quo; simp
theorem kIns_ne (key : List UInt8) (v : J) (B : KL) : (kIns key v B).its.isEmpty = false := by
 unfold kIns
 cases B.its.take (kPos key B.ks) <;> rfl
theorem sObj_step (k n : Nat) (s1 : List UInt8) (n1 : Int) (a : KL) (h : a.its.isEmpty = false) : sObj (sVal k) (n + 1) ⟨s1, n1, true⟩ a = bif hdB 125 s1 then (⟨hdS 125 s1, n1, true⟩, a) else sObj (sVal k) n (sField (sVal k) ⟨hdS 44 (hdS 125 s1), n1, hdB 44 (hdS 125 s1) && true⟩ a).1 (sField (sVal k) ⟨hdS 44 (hdS 125 s1), n1, hdB 44 (hdS 125 s1) && true⟩ a).2 := by
 rw [sObj_on _ _ _ _ rfl, h]; rfl
theorem obj_fwd {k : Nat} (IH : FWD k) : ∀ (N : Nat) (s : List UInt8) (m : Int) (A : KM) (B : KL) (s' : List UInt8) (m' : Int) (A' : KM), s.length + 1 ≤ N → Inv (12 - (k : Nat)) A B → partsL [125] (objStep (iVal k)) N ⟨s, false, m⟩ A = (⟨s', false, m'⟩, A') → ∀ n, s.length + 1 ≤ n →
  ∃ B', Inv (12 - (k : Nat)) A' B' ∧ B'.its ≠ [] ∧ m' + jns B'.its = m + jns B.its ∧ 0 ≤ m' ∧ osz B'.ks B'.its + s'.length ≤ osz B.ks B.its + s.length ∧ sObj (sVal k) n (sField (sVal k) ⟨s, 400 - m, true⟩ B).1 (sField (sVal k) ⟨s, 400 - m, true⟩ B).2 = (⟨s', 400 - m', true⟩, B')
 | 0, s, m, A, B, s', m', A', hN, hI, h, n, hn => by omega
 | N + 1, s, m, A, B, s', m', A', hN, hI, h, n, hn => by
  rw [partsL_on _ _ _ _ rfl] at h
  have ff := @fld_fwd k IH A B hI s m
  generalize objStep (iVal k) ⟨s, false, m⟩ A = y at *
  obtain ⟨⟨s1, b, m1⟩, A1⟩ := y
  cases b with
  | true =>
   exfalso
   simp only [tk_bad, cond_false] at h
   have h1 := partsL_off h
   rw [want_bad _ _ rfl] at h1; cases h1
  | false =>
   obtain ⟨key, v, f1, f2, f3, f4, f5, f6, f7, f8⟩ := ff rfl
   subst f5
   have hI1 := hI.ins f1 f2 f3
   rw [f4]
   obtain ⟨n, rfl⟩ : ∃ q, n = q + 1 := ⟨n - 1, by omega⟩
   simp only [rtk] at h
   rw [sObj_step _ _ _ _ _ (kIns_ne key v B)]
   have ho := osz_ins key v B hI.len
   have hq := quo_len' key
   have hj := jns_ins key v B
   cases h125 : hdB 125 s1 with
   | true =>
    rw [h125] at h
    simp only [cond_true, Prod.mk.injEq, RS.mk.injEq, true_and] at h
    obtain ⟨⟨rfl, rfl⟩, rfl⟩ := h
    have := hdS_lt h125
    refine ⟨kIns key v B, hI1, (fun e => by have := kIns_ne key v B; rw [e] at this; cases this), by omega, f7, by omega, rfl⟩
   | false =>
    rw [h125] at h
    simp only [cond_false, rwant] at h
    cases h44 : hdB 44 (hdS 125 s1) with
    | false =>
     have h1 := partsL_off h
     rw [h44] at h1; cases h1
    | true =>
     rw [h44] at h
     simp only [Bool.not_true] at h
     have a1 := hdS_lt h44
     have a2 := hdS_le 125 s1
     obtain ⟨B', i1, i2, i3, i4, i5, i6⟩ := obj_fwd IH N _ m1 _ _ s' m' A' (by omega) hI1 h n (by omega)
     exact ⟨B', i1, i2, by omega, i4, by omega, i6⟩
theorem kIns_key (key : List UInt8) (v : J) (B : KL) : key ∈ (kIns key v B).ks ∧ v ∈ (kIns key v B).its := by unfold kIns; simp
theorem kIns_sub (key : List UInt8) (v : J) (B : KL) : (∀ x ∈ B.ks, x ∈ (kIns key v B).ks) ∧ (∀ x ∈ B.its, x ∈ (kIns key v B).its) := by
 constructor
 ·intro x hx
  rw [← List.take_append_drop (kPos key B.ks) B.ks, List.mem_append] at hx
  unfold kIns
  simp only [List.mem_append, List.mem_cons]
  rcases hx with hx | hx
  ·exact .inl hx
  ·exact .inr (.inr hx)
 ·intro x hx
  rw [← List.take_append_drop (kPos key B.ks) B.its, List.mem_append] at hx
  unfold kIns
  simp only [List.mem_append, List.mem_cons]
  rcases hx with hx | hx
  ·exact .inl hx
  ·exact .inr (.inr hx)
theorem sField_ins (f : SS → J × SS) (x : SS) (a : KL) : ∃ key v, (sField f x a).2 = kIns key v a := ⟨_, _, rfl⟩
theorem sObj_sub (f : SS → J × SS) : ∀ (n : Nat) (x : SS) (a : KL), (∀ y ∈ a.ks, y ∈ (sObj f n x a).2.ks) ∧ (∀ y ∈ a.its, y ∈ (sObj f n x a).2.its)
 | 0, x, a => ⟨fun y hy => hy, fun y hy => hy⟩
 | n + 1, x, a => by
  cases ho : x.ok with
  | false => rw [sObj_off _ _ _ _ ho]; exact ⟨fun y hy => hy, fun y hy => hy⟩
  | true =>
   rw [sObj_on _ _ _ _ ho]
   cases (x.tk 125).1 with
   | true => exact ⟨fun y hy => hy, fun y hy => hy⟩
   | false =>
    simp only [cond_false]
    generalize (bif a.its.isEmpty then (x.tk 125).2 else (x.tk 125).2.nd 44) = x2
    obtain ⟨key, v, e⟩ := sField_ins f x2 a
    obtain ⟨q1, q2⟩ := sObj_sub f n (sField f x2 a).1 (sField f x2 a).2
    obtain ⟨w1, w2⟩ := kIns_sub key v a
    rw [e] at q1 q2 ⊢
    exact ⟨fun y hy => q1 y (w1 y hy), fun y hy => q2 y (w2 y hy)⟩
theorem fld_bwd {k : Nat} (FW : FWD k) (BW : BWD k) {A : KM} {B : KL} (hI : Inv (12 - (k : Nat)) A B) {s : List UInt8} {m : Int} {s1 : List UInt8} {n1 : Int} {B1 : KL} (h : sField (sVal k) ⟨s, 400 - m, true⟩ B = (⟨s1, n1, true⟩, B1)) (hp : ∀ y ∈ B1.ks, plainT y = true) (hr : ∀ x ∈ B1.its, RJ x) (hn : NoNm s1) :
  (objStep (iVal k) ⟨s, false, m⟩ A).1.bad = false := by
 have e : sField (sVal k) ⟨s, 400 - m, true⟩ B = (⟨(sVal k ⟨hdS 58 (stxE (hdB 34 s && true) (hdS 34 s)).2.2, 400 - m, hdB 58 (stxE (hdB 34 s && true) (hdS 34 s)).2.2 && (stxE (hdB 34 s && true) (hdS 34 s)).2.1⟩).2.s, (sVal k ⟨hdS 58 (stxE (hdB 34 s && true) (hdS 34 s)).2.2, 400 - m, hdB 58 (stxE (hdB 34 s && true) (hdS 34 s)).2.2 && (stxE (hdB 34 s && true) (hdS 34 s)).2.1⟩).2.n, (sVal k ⟨hdS 58 (stxE (hdB 34 s && true) (hdS 34 s)).2.2, 400 - m, hdB 58 (stxE (hdB 34 s && true) (hdS 34 s)).2.2 && (stxE (hdB 34 s && true) (hdS 34 s)).2.1⟩).2.ok && !kDup (stxE (hdB 34 s && true) (hdS 34 s)).1 B.ks⟩, kIns (stxE (hdB 34 s && true) (hdS 34 s)).1 (sVal k ⟨hdS 58 (stxE (hdB 34 s && true) (hdS 34 s)).2.2, 400 - m, hdB 58 (stxE (hdB 34 s && true) (hdS 34 s)).2.2 && (stxE (hdB 34 s && true) (hdS 34 s)).2.1⟩).1 B) := rfl
 rw [e] at h
 clear e
 have hon : hdB 58 (stxE (hdB 34 s && true) (hdS 34 s)).2.2 = true ∧ (stxE (hdB 34 s && true) (hdS 34 s)).2.1 = true := by
  cases hb : (hdB 58 (stxE (hdB 34 s && true) (hdS 34 s)).2.2 && (stxE (hdB 34 s && true) (hdS 34 s)).2.1) with
  | true => rw [Bool.and_eq_true] at hb; exact hb
  | false => rw [hb, sVal_bad _ _ (.inr (.inl rfl))] at h; simp at h
 have h34 : hdB 34 s = true := by
  cases hh : hdB 34 s with
  | true => rfl
  | false => rw [hh] at hon; have := hon.2; simp [stxE] at this
 rw [h34, show (true && true) = true from rfl] at h hon
 cases ht : stxE true (hdS 34 s) with
 | mk key z =>
 obtain ⟨b, s2⟩ := z
 rw [ht] at h hon
 obtain ⟨h58, rfl⟩ : hdB 58 s2 = true ∧ b = true := hon
 rw [h58] at h
 simp only [Bool.and_true] at h
 cases hv : sVal k ⟨hdS 58 s2, 400 - m, true⟩ with
 | mk v z =>
 obtain ⟨a, c, ok⟩ := z
 rw [hv] at h
 simp only [Prod.mk.injEq, SS.mk.injEq, Bool.and_eq_true] at h
 obtain ⟨⟨rfl, rfl, rfl, hd⟩, rfl⟩ := h
 obtain ⟨k1, k2⟩ := kIns_key key v B
 have hx := txtE_bwd ht (hp key k1)
 have hb := both FW BW hv (hr v k2) hn
 have hk : key ∉ B.ks := fun hm => by rw [mem_dup hI.pw hm] at hd; cases hd
 have hg : (kvGet key A.m).isSome = false := by
  cases hh : (kvGet key A.m).isSome with
  | false => rfl
  | true => exact absurd (hI.perm.mem_iff.2 ((hI.mem key).1 hh)) hk
 unfold objStep
 rw [rwant, h34]
 simp only [Bool.not_true, hx, rwant, h58, hb, hg, Bool.or_false]
theorem obj_bwd {k : Nat} (FW : FWD k) (BW : BWD k) : ∀ (n : Nat) (s : List UInt8) (m : Int) (A : KM) (B : KL) (s' : List UInt8) (n' : Int) (B' : KL), s.length + 1 ≤ n → Inv (12 - (k : Nat)) A B → sObj (sVal k) n (sField (sVal k) ⟨s, 400 - m, true⟩ B).1 (sField (sVal k) ⟨s, 400 - m, true⟩ B).2 = (⟨s', n', true⟩, B') → (∀ y ∈ B'.ks, plainT y = true) → (∀ x ∈ B'.its, RJ x) → ∀ N, s.length + 1 ≤ N →
  (partsL [125] (objStep (iVal k)) N ⟨s, false, m⟩ A).1.bad = false
 | 0, s, m, A, B, s', n', B', hn, hI, h, hp, hr, N, hN => by omega
 | n + 1, s, m, A, B, s', n', B', hn, hI, h, hp, hr, N, hN => by
  obtain ⟨N, rfl⟩ : ∃ q, N = q + 1 := ⟨N - 1, by omega⟩
  rw [partsL_on _ _ _ _ rfl]
  have fb := @fld_bwd k FW BW A B hI s m
  have ff := @fld_fwd k FW A B hI s m
  obtain ⟨ky, vv, hins⟩ := sField_ins (sVal k) ⟨s, 400 - m, true⟩ B
  generalize sField (sVal k) ⟨s, 400 - m, true⟩ B = y at *
  obtain ⟨⟨s1, n1, ok⟩, B1⟩ := y
  simp only at hins h
  cases ok with
  | false => rw [sObj_off _ _ _ _ rfl] at h; simp at h
  | true =>
   have hne : B1.its.isEmpty = false := by rw [hins]; exact kIns_ne ky vv B
   have hsub := sObj_sub (sVal k) (n + 1) ⟨s1, n1, true⟩ B1
   rw [h] at hsub
   have fb := fb rfl (fun y hy => hp y (hsub.1 y hy)) (fun x hx => hr x (hsub.2 x hx))
   rw [sObj_step _ _ _ _ _ hne] at h
   have go : NoNm s1 → ∃ A1, objStep (iVal k) ⟨s, false, m⟩ A = (⟨s1, false, 400 - n1⟩, A1) ∧ Inv (12 - (k : Nat)) A1 B1 ∧ s1.length ≤ s.length := fun hq => by
    have hb := fb hq
    generalize objStep (iVal k) ⟨s, false, m⟩ A = y at *
    obtain ⟨⟨a, b, c⟩, A1⟩ := y
    simp only at hb
    subst hb
    obtain ⟨key, v, f1, f2, f3, f4, f5, f6, f7, f8⟩ := ff rfl
    simp only [Prod.mk.injEq, SS.mk.injEq, and_true] at f4
    obtain ⟨⟨rfl, rfl⟩, rfl⟩ := f4
    refine ⟨A1, by rw [show (400 : Int) - (400 - c) = c by omega], by rw [f5]; exact hI.ins f1 f2 f3, by omega⟩
   cases h125 : hdB 125 s1 with
   | true =>
    obtain ⟨A1, e1, _, _⟩ := go (noNm_hd h125 (by decide))
    rw [e1]
    simp only [rtk, h125]; rfl
   | false =>
    rw [h125] at h
    simp only [cond_false] at h
    cases h44 : hdB 44 (hdS 125 s1) with
    | false =>
     rw [h44] at h
     exfalso
     have : (sField (sVal k) ⟨hdS 44 (hdS 125 s1), n1, false && true⟩ B1).1.ok = false := by
      unfold sField SS.nd
      simp only [Bool.false_and, Bool.and_false]
      have : ∀ q, (stxE false q).2.1 = false := fun q => rfl
      simp only [this, Bool.and_false]
      rw [sVal_bad _ _ (.inr (.inl rfl))]; rfl
     rw [sObj_off _ _ _ _ this] at h
     have h := congrArg (fun y => y.1.ok) h
     simp only at h
     rw [this] at h; cases h
    | true =>
     have h44' : hdB 44 s1 = true := by rw [hdS_no h125, hdB_skp] at h44; exact h44
     obtain ⟨A1, e1, hI1, hl⟩ := go (noNm_hd h44' (by decide))
     rw [h44] at h
     rw [e1]
     simp only [rtk, h125, cond_false, rwant, h44, Bool.not_true]
     have a1 := hdS_lt h44
     have a2 := hdS_le 125 s1
     refine obj_bwd FW BW n (hdS 44 (hdS 125 s1)) (400 - n1) A1 B1 s' n' B' (by omega) hI1 ?_ hp hr N (by omega)
     rw [show (400 : Int) - (400 - n1) = n1 by omega]
     exact h
end Go.Proofs.YtfncaghjfgnnhaaGreatDoor

namespace Go.Proofs.YtfncaghjfgnnhaaGreatDoor
open Go.RowKit
set_option maxRecDepth 100000
theorem dLen (s : List UInt8) (n : Nat) : (s.drop n).length = s.length - n := List.length_drop
theorem pj_tt' : (pj (.mk 1 1 [] [] [])).length = 4 := by rw [pj_tt]; rfl
theorem pj_ff' : (pj (.mk 1 0 [] [] [])).length = 5 := by rw [pj_ff]; rfl
theorem pj_null' : (pj J.zero).length = 4 := by rw [show pj J.zero = [110, 117, 108, 108] from pj_null ..]; rfl
theorem jn_leaf' (k n : Int) (t : List UInt8) : jn (.mk k n t [] []) = 1 := jn_leaf k n t []
theorem rd_leaf {k : Nat} {kd n : Int} {t : List UInt8} (h : partJ (.mk kd n t [] []) = true) : RD (.mk kd n t [] []) (12 - ((k + 1 : Nat) : Int)) := .mk' (by omega) h (fun x hx => by cases hx)
theorem rd_node {k : Nat} {j : J} (h : partJ j = true) (hi : ∀ x ∈ j.items, RD x (12 - (k : Nat))) : RD j (12 - ((k + 1 : Nat) : Int)) := by
 refine .mk' (by omega) h fun x hx => ?_
 rw [show (12 : Int) - ((k + 1 : Nat) : Int) + 1 = 12 - (k : Nat) by omega]
 exact hi x hx
theorem fwd : ∀ k, FWD k
 | 0 => fun s m j s' m' h => by
  have e : iVal 0 ⟨s, false, m⟩ = (J.zero, ⟨skp s, true, m - 1⟩) := rfl
  rw [e] at h; simp at h
 | k + 1 => fun s m j s' m' h => by
  have IH := fwd k
  by_cases h1 : m - 1 < 0
  ·rw [iVal_bad _ _ (.inr (.inl h1))] at h; simp at h
  by_cases h2 : (skp s).isEmpty = true
  ·rw [iVal_bad _ _ (.inr (.inr h2))] at h; simp at h
  have h2 : (skp s).isEmpty = false := by simpa using h2
  rw [iVal_go k ⟨s, false, m⟩ rfl h1 h2] at h
  have es : sVal (k + 1) ⟨s, 400 - m, true⟩ = sValB k (skp s) (400 - (m - 1)) := by
   rw [sVal_go k ⟨s, 400 - m, true⟩ rfl (by show ¬ 400 < 400 - m + 1; omega) h2]
   show sValB k (skp s) (400 - m + 1) = _
   rw [show (400 : Int) - m + 1 = 400 - (m - 1) by omega]
  have l0 := skp_len s
  have hsk := skp_skp s
  have hm : m - 1 = (m - 1 : Int) := rfl
  have ls : 1 ≤ (skp s).length := by cases hh : skp s with
   | nil => rw [hh] at h2; cases h2
   | cons c r => simp
  simp only at h
  generalize skp s = u at *
  suffices hs : sValB k u (400 - (m - 1)) = (j, ⟨s', 400 - m', true⟩) ∧ RD j (12 - ((k + 1 : Nat) : Int)) ∧ m' + jn j = m ∧ 0 ≤ m' ∧ (pj j).length + s'.length ≤ u.length from
   ⟨es.trans hs.1, hs.2.1, hs.2.2.1, hs.2.2.2.1, by have := hs.2.2.2.2; omega⟩
  have hb : ∀ b, hdB b u = pfx [b] u := fun b => by rw [hdB_pfx, hsk]
  unfold iValB at h
  unfold sValB
  cases hN : pfx wNull u with
  | true =>
   rw [hN] at h
   simp only [cond_true, Prod.mk.injEq, RS.mk.injEq, true_and] at h ⊢
   obtain ⟨rfl, rfl, rfl⟩ := h
   have := pfx_len hN
   have hw : wNull.length = 4 := rfl
   refine ⟨⟨rfl, rfl⟩, rd_leaf (by decide), ?_, by omega, ?_⟩
   ·rw [show jn J.zero = 1 from jn_leaf' 0 0 []]; omega
   ·rw [pj_null', dLen]; omega
  | false =>
  rw [hN] at h
  simp only [cond_false] at h ⊢
  cases hT : pfx wTrue u with
  | true =>
   rw [hT] at h
   simp only [cond_true, Prod.mk.injEq, RS.mk.injEq, true_and] at h ⊢
   obtain ⟨rfl, rfl, rfl⟩ := h
   have := pfx_len hT
   have hw : wTrue.length = 4 := rfl
   refine ⟨⟨rfl, rfl⟩, rd_leaf (by decide), ?_, by omega, ?_⟩
   ·rw [jn_leaf']; omega
   ·rw [pj_tt', dLen]; omega
  | false =>
  rw [hT] at h
  simp only [cond_false] at h ⊢
  cases hF : pfx wFalse u with
  | true =>
   rw [hF] at h
   simp only [cond_true, Prod.mk.injEq, RS.mk.injEq, true_and] at h ⊢
   obtain ⟨rfl, rfl, rfl⟩ := h
   have := pfx_len hF
   have hw : wFalse.length = 5 := rfl
   refine ⟨⟨rfl, rfl⟩, rd_leaf (by decide), ?_, by omega, ?_⟩
   ·rw [jn_leaf']; omega
   ·rw [pj_ff', dLen]; omega
  | false =>
  rw [hF] at h
  simp only [cond_false] at h ⊢
  rw [hb 34, hb 91, hb 123]
  cases h34 : pfx [34] u with
  | true =>
   rw [h34] at h
   simp only [cond_true] at h ⊢
   cases ht : txtE false (u.drop 1) with
   | mk w z =>
   obtain ⟨b, s2⟩ := z
   rw [ht] at h
   simp only [Prod.mk.injEq, RS.mk.injEq] at h
   obtain ⟨rfl, rfl, rfl, rfl⟩ := h
   obtain ⟨t1, t2, t3⟩ := txtE_fwd ht
   rw [t3]
   refine ⟨rfl, rd_leaf (by simp [partJ, t1]), ?_, by omega, ?_⟩
   ·rw [jn_leaf']; omega
   ·rw [pj_txt, quo_len']
    rw [dLen] at t2
    omega
  | false =>
  rw [h34] at h
  simp only [cond_false] at h ⊢
  cases h91 : pfx [91] u with
  | true =>
   rw [h91] at h
   simp only [cond_true] at h ⊢
   have hd1 : (u.drop 1).length + 1 = u.length := by rw [dLen]; omega
   generalize u.drop 1 = v at *
   unfold partsE at h
   rw [rtk] at h
   simp only at h
   rw [sLst]
   have e1 : (SS.mk v (400 - (m - 1)) true).tk 93 = (hdB 93 v, ⟨hdS 93 v, 400 - (m - 1), true⟩) := rfl
   rw [e1]
   simp only [cond_true]
   cases h93 : hdB 93 v with
   | true =>
    rw [h93] at h
    simp only [cond_true, Prod.mk.injEq, RS.mk.injEq, true_and] at h ⊢
    obtain ⟨rfl, rfl, rfl⟩ := h
    have := hdS_lt h93
    refine ⟨⟨rfl, rfl⟩, rd_leaf (by simp [partJ]), ?_, by omega, ?_⟩
    ·rw [jn_leaf']; omega
    ·rw [pj_lst, pjs]; simp only [List.length_append, List.length_cons, List.length_nil]; omega
   | false =>
    rw [h93] at h
    simp only [cond_false, List.isEmpty_nil, cond_true] at h ⊢
    have a2 := hdS_le 93 v
    generalize hdS 93 v = v2 at *
    cases hp : partsL [93] (listStep (iVal k)) (v2.length + 2) ⟨v2, false, m - 1⟩ [] with
    | mk r out =>
    rw [hp] at h
    simp only [Prod.mk.injEq] at h
    obtain ⟨rfl, rfl⟩ := h
    obtain ⟨its, i1, i2, i3, i4, i5, i6, i7⟩ := lst_fwd IH _ v2 (m - 1) [] s' m' out (by omega) hp (u.length + 1) (by omega)
    rw [List.nil_append] at i2
    subst i2
    rw [i7]
    refine ⟨rfl, rd_node (by simp [partJ]) i3, ?_, i5, ?_⟩
    ·rw [show jn (.mk 4 0 [] [] out) = 1 + jns out from jn_eq _]; omega
    ·rw [pj_lst]; simp only [List.length_append, List.length_cons, List.length_nil]; omega
  | false =>
  rw [h91] at h
  simp only [cond_false] at h ⊢
  cases h123 : pfx [123] u with
  | true =>
   rw [h123] at h
   simp only [cond_true] at h ⊢
   have hd1 : (u.drop 1).length + 1 = u.length := by rw [dLen]; omega
   generalize u.drop 1 = v at *
   unfold partsE at h
   rw [rtk] at h
   simp only at h
   rw [sObj_on _ _ _ _ rfl]
   have e1 : (SS.mk v (400 - (m - 1)) true).tk 125 = (hdB 125 v, ⟨hdS 125 v, 400 - (m - 1), true⟩) := rfl
   rw [e1]
   simp only
   cases h125 : hdB 125 v with
   | true =>
    rw [h125] at h
    simp only [cond_true, Prod.mk.injEq, RS.mk.injEq, true_and] at h ⊢
    have eo : objJ ⟨[], []⟩ = .mk 5 0 [] [] [] := inv_objJ (Inv.nil 0)
    rw [eo] at h
    obtain ⟨rfl, rfl, rfl⟩ := h
    have := hdS_lt h125
    refine ⟨⟨rfl, rfl⟩, rd_leaf (by simp [partJ, areK]), ?_, by omega, ?_⟩
    ·rw [jn_leaf']; omega
    ·rw [pj_obj, pjs]; simp only [List.length_append, List.length_cons, List.length_nil]; omega
   | false =>
    rw [h125] at h
    simp only [cond_false, List.isEmpty_nil, cond_true] at h ⊢
    have a2 := hdS_le 125 v
    generalize hdS 125 v = v2 at *
    cases hp : partsL [125] (objStep (iVal k)) (v2.length + 2) ⟨v2, false, m - 1⟩ ⟨[], []⟩ with
    | mk r out =>
    rw [hp] at h
    simp only [Prod.mk.injEq] at h
    obtain ⟨rfl, rfl⟩ := h
    obtain ⟨B', i1, i2, i3, i4, i5, i6⟩ := obj_fwd IH _ v2 (m - 1) ⟨[], []⟩ ⟨[], []⟩ s' m' out (by omega) (Inv.nil _) hp (u.length + 1) (by omega)
    rw [i6, inv_objJ i1]
    simp only [jns, osz] at i3 i5
    have ho := pjs_osz1 i1.len i2
    refine ⟨rfl, rd_node i1.part i1.rd, ?_, i4, ?_⟩
    ·rw [show jn (.mk 5 0 [] B'.ks B'.its) = 1 + jns B'.its from jn_eq _]; omega
    ·rw [pj_obj]; simp only [List.length_append, List.length_cons, List.length_nil]; omega
  | false =>
  rw [h123] at h
  simp only [cond_false] at h ⊢
  unfold nmJ nmB at h
  simp only [Prod.mk.injEq, RS.mk.injEq, Bool.false_or, Bool.or_eq_false_iff, Bool.not_eq_false'] at h
  obtain ⟨rfl, rfl, ⟨q1, q2⟩, rfl⟩ := h
  cases hr : rdN (u.takeWhile nmC) with
  | mk v b =>
  rw [hr] at q1 q2
  simp only at q1 q2
  subst q1
  obtain ⟨n1, n2, n3⟩ := num_fwd hr q2
  have hv := inB_iff.1 q2
  rw [n1, n2]
  refine ⟨rfl, rd_leaf (by simp [partJ]; omega), ?_, by omega, ?_⟩
  ·rw [jn_leaf']; omega
  ·rw [pj_num]; show (dg v).length + _ ≤ _; omega
theorem bwd : ∀ k, BWD k
 | 0 => fun s m j s' n' h _ _ => by
  have e : sVal 0 ⟨s, 400 - m, true⟩ = (J.zero, ⟨skp s, 400 - m + 1, false⟩) := rfl
  rw [e] at h; simp at h
 | k + 1 => fun s m j s' n' h hr hn => by
  have FW := fwd k
  have BW := bwd k
  by_cases h1 : (400 : Int) < 400 - m + 1
  ·rw [sVal_bad _ _ (.inr (.inr (.inl h1)))] at h; simp at h
  by_cases h2 : (skp s).isEmpty = true
  ·rw [sVal_bad _ _ (.inr (.inr (.inr h2)))] at h; simp at h
  have h2 : (skp s).isEmpty = false := by simpa using h2
  rw [sVal_go k ⟨s, 400 - m, true⟩ rfl h1 h2] at h
  rw [iVal_go k ⟨s, false, m⟩ rfl (by show ¬ m - 1 < 0; omega) h2]
  have hsk := skp_skp s
  have ls : 1 ≤ (skp s).length := by cases hh : skp s with
   | nil => rw [hh] at h2; cases h2
   | cons c r => simp
  simp only at h ⊢
  rw [show (400 : Int) - m + 1 = 400 - (m - 1) by omega] at h
  generalize skp s = u at *
  have hb : ∀ b, hdB b u = pfx [b] u := fun b => by rw [hdB_pfx, hsk]
  unfold sValB at h
  unfold iValB
  rw [hb 34, hb 91, hb 123] at h
  cases hN : pfx wNull u with
  | true => rfl
  | false =>
  rw [hN] at h
  simp only [cond_false] at h ⊢
  cases hT : pfx wTrue u with
  | true => rfl
  | false =>
  rw [hT] at h
  simp only [cond_false] at h ⊢
  cases hF : pfx wFalse u with
  | true => rfl
  | false =>
  rw [hF] at h
  simp only [cond_false] at h ⊢
  cases h34 : pfx [34] u with
  | true =>
   rw [h34] at h
   simp only [cond_true] at h ⊢
   cases ht : stxE true (u.drop 1) with
   | mk w z =>
   obtain ⟨b, s2⟩ := z
   rw [ht] at h
   simp only [Prod.mk.injEq, SS.mk.injEq] at h
   obtain ⟨rfl, rfl, rfl, rfl⟩ := h
   have hp : plainT w = true := by
    have := (part_flds hr.part)
    have hh := (part_head hr.part).2
    cases hh with
    | txt h => exact h
   rw [txtE_bwd ht hp]
  | false =>
  rw [h34] at h
  simp only [cond_false] at h ⊢
  cases h91 : pfx [91] u with
  | true =>
   rw [h91] at h
   simp only [cond_true] at h ⊢
   have hd1 : (u.drop 1).length + 1 = u.length := by rw [dLen]; omega
   generalize u.drop 1 = v at *
   unfold partsE
   rw [rtk]
   simp only
   rw [sLst] at h
   have e1 : (SS.mk v (400 - (m - 1)) true).tk 93 = (hdB 93 v, ⟨hdS 93 v, 400 - (m - 1), true⟩) := rfl
   rw [e1] at h
   simp only [cond_true] at h
   cases h93 : hdB 93 v with
   | true => rfl
   | false =>
    rw [h93] at h
    simp only [cond_false, List.isEmpty_nil, cond_true] at h ⊢
    have a2 := hdS_le 93 v
    generalize hdS 93 v = v2 at *
    cases hp : sLst (sVal k) (u.length + 1) (sVal k ⟨v2, 400 - (m - 1), true⟩).2 ([] ++ [(sVal k ⟨v2, 400 - (m - 1), true⟩).1]) with
    | mk r out =>
    rw [hp] at h
    simp only [Prod.mk.injEq] at h
    obtain ⟨rfl, rfl⟩ := h
    exact lst_bwd FW BW _ v2 (m - 1) [] s' n' out (by omega) hp (fun x hx => hr.item x hx) _ (by omega)
  | false =>
  rw [h91] at h
  simp only [cond_false] at h ⊢
  cases h123 : pfx [123] u with
  | true =>
   rw [h123] at h
   simp only [cond_true] at h ⊢
   have hd1 : (u.drop 1).length + 1 = u.length := by rw [dLen]; omega
   generalize u.drop 1 = v at *
   unfold partsE
   rw [rtk]
   simp only
   rw [sObj_on _ _ _ _ rfl] at h
   have e1 : (SS.mk v (400 - (m - 1)) true).tk 125 = (hdB 125 v, ⟨hdS 125 v, 400 - (m - 1), true⟩) := rfl
   rw [e1] at h
   simp only at h
   cases h125 : hdB 125 v with
   | true => rfl
   | false =>
    rw [h125] at h
    simp only [cond_false, List.isEmpty_nil, cond_true] at h ⊢
    have a2 := hdS_le 125 v
    generalize hdS 125 v = v2 at *
    cases hp : sObj (sVal k) (u.length + 1) (sField (sVal k) ⟨v2, 400 - (m - 1), true⟩ ⟨[], []⟩).1 (sField (sVal k) ⟨v2, 400 - (m - 1), true⟩ ⟨[], []⟩).2 with
    | mk r out =>
    rw [hp] at h
    simp only [Prod.mk.injEq] at h
    obtain ⟨rfl, rfl⟩ := h
    have hk : areK out.ks = true := by
     have hh := (part_head hr.part).2
     cases hh with
     | obj _ h => exact h
    exact obj_bwd FW BW _ v2 (m - 1) ⟨[], []⟩ ⟨[], []⟩ s' n' out (by omega) (Inv.nil _) hp (areK_mem hk) (fun x hx => hr.item x hx) _ (by omega)
  | false =>
  rw [h123] at h
  simp only [cond_false] at h ⊢
  simp only [Prod.mk.injEq, SS.mk.injEq] at h
  obtain ⟨rfl, rfl, rfl, q⟩ := h
  cases hv : snV u with
  | mk v b =>
  rw [hv] at hr q
  simp only at hr q
  subst q
  have hh : -1000000000 ≤ v ∧ v ≤ 1000000000 := by
   have hh := (part_head hr.part).2
   cases hh with
   | num h => exact h
  exact num_bwd hv hh hn
structure Rd (t : List UInt8) (j : J) : Prop where
 rd : RD j 0
 nd : jn j ≤ 400
 len : (pj j).length ≤ t.length
theorem ipar_rd {t : List UInt8} (h : (iPar t).2 = true) : Rd t (iPar t).1 ∧ sPar t = ((iPar t).1, true) := by
 have fw := fwd 12 t 400
 unfold iPar iEnd at h ⊢
 unfold iVal0 at h ⊢
 cases hi : iVal 12 ⟨t, false, 400⟩ with
 | mk j r =>
 obtain ⟨s', b, m'⟩ := r
 rw [hi] at h fw
 cases b with
 | true => simp at h
 | false =>
  cases he : (skp s').isEmpty with
  | false => rw [he] at h; simp at h
  | true =>
   simp only [Bool.not_false, Bool.and_true, cond_true]
   obtain ⟨sv, rd, nd, lo, len⟩ := fw j s' m' rfl
   rw [show (400 : Int) - 400 = 0 from rfl] at sv
   rw [show (12 : Int) - ((12 : Nat) : Int) = 0 from rfl] at rd
   refine ⟨⟨rd, by omega, by omega⟩, ?_⟩
   unfold sPar sVal0
   rw [sv]
   have := pfo_right 12 j (by rw [show (12 : Int) - ((12 : Nat) : Int) = 0 from rfl]; exact rd) (by omega)
   rw [this]
   simp only [he, Bool.and_true, cond_true]
theorem noNm_blank : ∀ {s : List UInt8}, (skp s).isEmpty = true → NoNm s
 | [], _ => noNm_nil
 | c :: s, h => by
  cases hc : blkC c with
  | false => rw [skp_nb s hc] at h; cases h
  | true =>
   refine noNm_cons s ?_
   cases hn : nmC c with
   | false => rfl
   | true => rw [nmC_blk hn] at hc; cases hc
theorem par_eq (t : List UInt8) (ht : t.length ≤ 1000000) : sPar t = iPar t := by
 cases h : (iPar t).2 with
 | true =>
  rw [(ipar_rd h).2]
  exact Prod.ext rfl h.symm
 | false =>
  have e1 : iPar t = (J.zero, false) := by
   unfold iPar at h ⊢
   cases hh : iEnd (iVal0 t) with
   | true => rw [hh] at h; cases h
   | false => rfl
  rw [e1]
  unfold sPar
  cases hc : ((sVal0 t).2.ok && (skp (sVal0 t).2.s).isEmpty && (pfo 12 (sVal0 t).1).2) with
  | false => rfl
  | true =>
   exfalso
   rw [Bool.and_eq_true, Bool.and_eq_true] at hc
   obtain ⟨⟨c1, c2⟩, c3⟩ := hc
   have hpf := (sVal_pf 12 ⟨t, 0, true⟩ ht).1
   have hr := pfo_rj 12 _ hpf c3
   have ev : sVal 12 ⟨t, 400 - 400, true⟩ = ((sVal0 t).1, ⟨(sVal0 t).2.s, (sVal0 t).2.n, true⟩) := by
    have : sVal 12 ⟨t, 400 - 400, true⟩ = sVal0 t := rfl
    rw [this]
    generalize sVal0 t = y at *
    obtain ⟨j, ⟨a, b, c⟩⟩ := y
    simp only at c1
    rw [c1]
   have bo := both (fwd 12) (bwd 12) ev hr (noNm_blank c2)
   unfold iPar iEnd iVal0 at h
   rw [bo] at h
   simp only [c2, Bool.not_false, Bool.and_true, cond_true] at h
   cases h
end Go.Proofs.YtfncaghjfgnnhaaGreatDoor

namespace Go.Proofs.YtfncaghjfgnnhaaGreatDoor
open Go.RowKit
set_option maxRecDepth 100000
abbrev fJTxt : Nat := 43
abbrev fTDrn : Nat := 21
noncomputable def resJT : ResT := fun f vs hp => match vs, hp with
 | [.ptr 0 0, .int _ d], [some ([.dsl _ _ cs, .int _ k, .int _ s], _)] => bif Nat.beq f fJson then some ⟨jsonF 3 (srcOf cs k s), fun y => ⟨.agg (vwJ y.1), [srcB y.2], [0]⟩⟩ else bif Nat.beq f fNext then some ⟨nextF (srcOf cs k s) d, fun y => ⟨.int .i64 y.1, [srcB y.2], [0]⟩⟩ else none
 | [.agg [.int _ k, .int _ n, .str t, .dsl _ _ ks, .dsl _ _ its]], [] => bif Nat.beq f fPrint then some ⟨pj (jOf k n t ks its), fun y => ⟨.str y, [], []⟩⟩ else none
 | [.ptr 0 0, .sl 1 0 _ _], [some ([.dsl _ _ cs, .int _ k, .int _ s], _), some (c, t)] => bif Nat.beq f fPick then some ⟨pickF (srcOf cs k s) (strsOf c), fun y => ⟨.str y.1, [srcB y.2, some (c, t)], [0]⟩⟩ else none
 | _, _ => none
noncomputable def EJT (v : V) : Env := { P := Tryz.prog, vw := vwA, res := resJT, vs := [(7, 7, v)] }
--FOLD vwJ srcB
set_option maxRecDepth 100000 in
theorem jtxtT (x : Src) (v : Int) : fnT (EJT (.int .u8 v)) 0 fJTxt [.ptr 0 0] [srcB x] = (
 .bind (jsonF 3 (srcOf (encs encByte (Src.l x)) (↑(Src.k x) : Int) (Src.s x))) fun y0 => .need [FnOK Tryz.prog 33 [.ptr 0 0, .int .i64 3] [srcB x] (Ret.mk (.agg (vwJ y0.1)) [srcB y0.2] [0])] (.bind (pj (jOf (J.kind y0.1) (J.n y0.1) (J.t
 y0.1) (encs encStr (J.keys y0.1)) (encs encJ (J.items y0.1)))) fun y1 => .need [FnOK Tryz.prog 36 [.agg (vwJ y0.1)] [] (Ret.mk (.str y1) [] [])] (.bind (nextF (srcOf (encs encByte (Src.l y0.2)) (↑(Src.k y0.2) : Int) (Src.s y0.2)) (6 : Int))
 fun y2 => .need [FnOK Tryz.prog 50 [.ptr 0 0, .int .i64 6] [srcB y0.2] (Ret.mk (.int .i64 y2.1) [srcB y2.2] [0])] (bif y2.1 == 0 then .need [1 + y1.length ≤ 4611686018427387904] (.need [List.length ([(32 : UInt8)] ++ y1) + 1 ≤
 4611686018427387904] (.done (Ret.mk (.str ([(32 : UInt8)] ++ y1 ++ [(10 : UInt8)])) [srcB y2.2] [0]))) else bif y2.1 == 1 then .need [y1.length ≤ 9223372036854775807] (.bind (nextF (srcOf (encs encByte (Src.l y2.2)) (↑(Src.k y2.2) : Int)
 (Src.s y2.2)) (↑y1.length : Int)) fun y3 => .need [FnOK Tryz.prog 50 [.ptr 0 0, .int .i64 (↑y1.length : Int)] [srcB y2.2] (Ret.mk (.int .i64 y3.1) [srcB y3.2] [0])] (.bind (nextF (srcOf (encs encByte (Src.l y3.2)) (↑(Src.k y3.2) : Int)
 (Src.s y3.2)) (10 : Int)) fun y4 => .need [FnOK Tryz.prog 50 [.ptr 0 0, .int .i64 10] [srcB y3.2] (Ret.mk (.int .i64 y4.1) [srcB y4.2] [0])] (.need [0 ≤ y4.1 ∧ y4.1 < 10] (.need [0 ≤ y3.1 ∧ y3.1 < (↑y1.length : Int)] (.need [List.take 1
 (List.drop (0 + Int.toNat y3.1 * 1) (byts y1)) = [.int .u8 (↑(UInt8.toNat (List.getD (decL encByte (byts y1)) ((0 + Int.toNat y3.1 * 1) / 1) (0 : UInt8))) : Int)], 0 + Int.toNat y3.1 * 1 + 1 ≤ List.length (byts y1)] (.need [List.take (0 +
 Int.toNat y3.1 * 1) (byts y1) = byts (decL encByte (List.take (0 + Int.toNat y3.1 * 1) (byts y1))), (0 : Int) ≤ (↑(UInt8.toNat (List.getD [(123 : UInt8), 125, 91, 93, 44, 58, 34, 120, 48, 32] (Int.toNat y4.1) (0 : UInt8))) : Int) ∧
 (↑(UInt8.toNat (List.getD [(123 : UInt8), 125, 91, 93, 44, 58, 34, 120, 48, 32] (Int.toNat y4.1) (0 : UInt8))) : Int) < 256, List.drop (0 + Int.toNat y3.1 * 1 + 1) (byts y1) = byts (decL encByte (List.drop (0 + Int.toNat y3.1 * 1 + 1) (byts
 y1))), 0 = 0, List.length (decL encByte (List.take (0 + Int.toNat y3.1 * 1) (byts y1)) ++ UInt8.ofNat (Int.toNat (↑(UInt8.toNat (List.getD [(123 : UInt8), 125, 91, 93, 44, 58, 34, 120, 48, 32] (Int.toNat y4.1) (0 : UInt8))) : Int)) :: (decL
 encByte (List.drop (0 + Int.toNat y3.1 * 1 + 1) (byts y1)) ++ [])) = y1.length] (.done (Ret.mk (.str (decL encByte (List.take (0 + Int.toNat y3.1 * 1) (byts y1)) ++ UInt8.ofNat (Int.toNat (↑(UInt8.toNat (List.getD [(123 : UInt8), 125, 91,
 93, 44, 58, 34, 120, 48, 32] (Int.toNat y4.1) (0 : UInt8))) : Int)) :: (decL encByte (List.drop (0 + Int.toNat y3.1 * 1 + 1) (byts y1)) ++ []))) [srcB y4.2] [0])))))))) else bif y2.1 == 2 then .bind (pickF (srcOf (encs encByte (Src.l y2.2))
 (↑(Src.k y2.2) : Int) (Src.s y2.2)) (strsOf [.str [], .str [110, 117, 108], .str [45, 48], .str [48, 49], .str [49, 32, 50], .str [91, 49, 44, 93], .str [123, 34, 97, 34, 58, 49, 44, 34, 97, 34, 58, 50, 125], .str [123, 34, 98, 34, 58, 49,
 44, 34, 97, 34, 58, 50, 125], .str [(91 : UInt8), 91, 91, 91, 91, 91, 91, 91, 91, 91, 91, 91, 49, 93, 93, 93, 93, 93, 93, 93, 93, 93, 93, 93, 93], .str [(91 : UInt8), 91, 91, 91, 91, 91, 91, 91, 91, 91, 91, 49, 93, 93, 93, 93, 93, 93, 93,
 93, 93, 93, 93], .str [34, 92, 47, 34], .str [34, 92, 110, 34], .str [49, 48, 48, 48, 48, 48, 48, 48, 48, 49], .str [123, 34, 97, 34, 32, 58, 32, 91, 32, 93, 32, 125]])) fun y5 => .need [FnOK Tryz.prog 64 [.ptr 0 0, .sl 1 0 14 true] [srcB
 y2.2, some ([.str [], .str [110, 117, 108], .str [45, 48], .str [48, 49], .str [49, 32, 50], .str [91, 49, 44, 93], .str [(123 : UInt8), 34, 97, 34, 58, 49, 44, 34, 97, 34, 58, 50, 125], .str [(123 : UInt8), 34, 98, 34, 58, 49, 44, 34, 97,
 34, 58, 50, 125], .str [(91 : UInt8), 91, 91, 91, 91, 91, 91, 91, 91, 91, 91, 91, 49, 93, 93, 93, 93, 93, 93, 93, 93, 93, 93, 93, 93], .str [(91 : UInt8), 91, 91, 91, 91, 91, 91, 91, 91, 91, 91, 49, 93, 93, 93, 93, 93, 93, 93, 93, 93, 93,
 93], .str [34, 92, 47, 34], .str [34, 92, 110, 34], .str [49, 48, 48, 48, 48, 48, 48, 48, 48, 49], .str [123, 34, 97, 34, 32, 58, 32, 91, 32, 93, 32, 125]], 9)] (Ret.mk (.str y5.1) [srcB y5.2, some ([.str [], .str [110, 117, 108], .str [45,
 48], .str [48, 49], .str [49, 32, 50], .str [91, 49, 44, 93], .str [(123 : UInt8), 34, 97, 34, 58, 49, 44, 34, 97, 34, 58, 50, 125], .str [(123 : UInt8), 34, 98, 34, 58, 49, 44, 34, 97, 34, 58, 50, 125], .str [(91 : UInt8), 91, 91, 91, 91,
 91, 91, 91, 91, 91, 91, 91, 49, 93, 93, 93, 93, 93, 93, 93, 93, 93, 93, 93, 93], .str [(91 : UInt8), 91, 91, 91, 91, 91, 91, 91, 91, 91, 91, 49, 93, 93, 93, 93, 93, 93, 93, 93, 93, 93, 93], .str [34, 92, 47, 34], .str [34, 92, 110, 34],
 .str [49, 48, 48, 48, 48, 48, 48, 48, 48, 49], .str [123, 34, 97, 34, 32, 58, 32, 91, 32, 93, 32, 125]], 9)] [0])] (.done (Ret.mk (.str y5.1) [srcB y5.2] [0])) else .done (Ret.mk (.str y1) [srcB y2.2] [0])))) : T _) := (T.force_eq _).symm.trans (by kernel_rfl)
theorem bdrop (L : List UInt8) (i : Nat) : (byts L).drop i = byts (L.drop i) := by
 have := layByte.drop L i
 rw [Nat.mul_one] at this
 rw [byts_encs, byts_encs, this]
theorem btake (L : List UInt8) (i : Nat) : (byts L).take i = byts (L.take i) := by
 have := layByte.take L i
 rw [Nat.mul_one] at this
 rw [byts_encs, byts_encs, this]
theorem bdec (L : List UInt8) : decL encByte (byts L) = L := by rw [byts_encs, layByte.decL]
theorem blen (L : List UInt8) : (byts L).length = L.length := by rw [byts_encs, layByte.length, Nat.mul_one]
theorem bone (L : List UInt8) (i : Nat) (h : i < L.length) : byts ((L.drop i).take 1) = [V.int .u8 ((L.getD i 0).toNat : Nat)] := by
 have e : (L.drop i).take 1 = [L.getD i 0] := by
  rw [List.drop_eq_getElem_cons h, List.getD_eq_getElem?_getD, List.getElem?_eq_getElem h]; rfl
 rw [e]; rfl
def oddTexts : List (List UInt8) := [[], [110, 117, 108], [45, 48], [48, 49], [49, 32, 50], [91, 49, 44, 93], [123, 34, 97, 34, 58, 49, 44, 34, 97, 34, 58, 50, 125], [123, 34, 98, 34, 58, 49, 44, 34, 97, 34, 58, 50, 125], [91, 91, 91, 91, 91, 91, 91, 91, 91, 91, 91, 91, 49, 93, 93, 93, 93, 93, 93, 93, 93, 93, 93, 93, 93], [91, 91, 91, 91, 91, 91, 91, 91, 91, 91, 91, 49, 93, 93, 93, 93, 93, 93, 93, 93, 93, 93, 93], [34, 92, 47, 34], [34, 92, 110, 34], [49, 48, 48, 48, 48, 48, 48, 48, 48, 49], [123, 34, 97, 34, 32, 58, 32, 91, 32, 93, 32, 125]]
theorem odd_len : ∀ w ∈ oddTexts, w.length ≤ 100 := by decide
theorem dr_pos {j : J} (h : Dr 3 j) : 1 ≤ (pj j).length := by
 have hn := h.nodes
 have n3 : nF 3 = 85 := by decide
 have hr := h.right 0 400 (by omega) (by omega) (by omega)
 have h1 : (rightJ j 0 400).1 = true := by rw [hr]
 obtain ⟨c, s, e, _⟩ := (part_head (rightJ_in h1).2.2.1).2.cons
 rw [e]; simp
theorem jtxt_ok (x : Src) (h : x.OK (20 + qF 3)) : ∃ w x', w.length ≤ 2252 ∧ FnOK Tryz.prog fJTxt [.ptr 0 0] [srcB x] ⟨.str w, [srcB x'], [0]⟩ := by
 have hd := json_draw 3 (by omega)
 have hc := hd.call x 20 h
 have h1 := hd.cost x 20 h
 have hpr := json_pr 3 (by omega) x 20 h
 have b3 : bF 3 = 2250 := by decide
 have hlen := hpr.len
 rw [b3] at hlen
 have hlp := dr_pos (json_dr 3 (by omega) x 20 h)
 have hp := hpr.ok
 have h2 := nextF_ok (c := 17) (n := 6) h1 (by omega)
 have h3 := nextF_ok (c := 14) (n := ((pj (jsonF 3 x).1).length : Int)) (h2.1.less (by omega)) (by omega)
 have h4 := nextF_ok (c := 11) (n := 10) h3.1 (by omega)
 generalize ht : pj (jsonF 3 x).1 = t at *
 by_cases k0 : (nextF (jsonF 3 x).2 6).1 = 0
 ·refine ⟨[32] ++ t ++ [10], (nextF (jsonF 3 x).2 6).2, by simp; omega, ?_⟩
  refine fnOK_TL (E := EJT (.int .u8 0)) follows named (jtxtT x 0) (by simp) ?_
  simp only [WP_cond, T.WP, All, and_true, beq_iff_eq, beq_eq_false_iff_ne, ne_eq, srcOf_mk, jOf_eta]
  rintro y0 rfl
  refine ⟨hc, ?_⟩
  rw [ht]
  rintro y1 rfl
  refine ⟨hp, ?_⟩
  rintro y2 rfl
  refine ⟨next_ok _ _ h1, fun _ => ⟨by omega, by simp; omega, ⟨rfl, rfl, by simp⟩⟩, fun hk => absurd k0 hk⟩
 by_cases k1 : (nextF (jsonF 3 x).2 6).1 = 1
 ·generalize hc' : ([123, 125, 91, 93, 44, 58, 34, 120, 48, 32] : List UInt8).getD (nextF (nextF (nextF (jsonF 3 x).2 6).2 (t.length : Int)).2 10).1.toNat 0 = c' at *
  refine ⟨t.take (nextF (nextF (jsonF 3 x).2 6).2 (t.length : Int)).1.toNat ++ UInt8.ofNat (Int.toNat ((c'.toNat : Nat) : Int)) :: (t.drop ((nextF (nextF (jsonF 3 x).2 6).2 (t.length : Int)).1.toNat + 1) ++ []), (nextF (nextF (nextF (jsonF 3 x).2 6).2 (t.length : Int)).2 10).2, ?_, ?_⟩
  ·simp only [List.length_append, List.length_cons, List.length_take, List.length_drop, List.length_nil]; omega
  refine fnOK_TL (E := EJT (.int .u8 (t.getD (nextF (nextF (jsonF 3 x).2 6).2 (t.length : Int)).1.toNat 0).toNat)) follows named (jtxtT x ((t.getD (nextF (nextF (jsonF 3 x).2 6).2 (t.length : Int)).1.toNat 0).toNat : Nat)) (by simp) ?_
  simp only [WP_cond, T.WP, All, and_true, beq_iff_eq, beq_eq_false_iff_ne, ne_eq, srcOf_mk, jOf_eta]
  rintro y0 rfl
  refine ⟨hc, ?_⟩
  rw [ht]
  rintro y1 rfl
  refine ⟨hp, ?_⟩
  rintro y2 rfl
  refine ⟨next_ok _ _ h1, fun h => absurd h k0, fun _ => ⟨fun _ => ⟨by omega, ?_⟩, fun h => absurd k1 h⟩⟩
  rintro y3 rfl
  refine ⟨next_ok (c := 14) _ _ (h2.1.less (by omega)), ?_⟩
  rintro y4 rfl
  refine ⟨next_ok _ _ h3.1, ⟨h4.2.1, h4.2.2⟩, ⟨h3.2.1, h3.2.2⟩, ?_⟩
  have hi : (nextF (nextF (jsonF 3 x).2 6).2 (y1.length : Int)).1.toNat < y1.length := by omega
  have hu := c'.toNat_lt
  simp only [Nat.zero_add, Nat.mul_one, Nat.div_one, bdrop, btake, bdec, blen, bone y1 _ hi, hc']
  refine ⟨⟨trivial, by omega⟩, ⟨trivial, ⟨by omega, by omega⟩, trivial, trivial, ?_⟩, ⟨rfl, rfl, by simp⟩⟩
  simp only [List.length_append, List.length_cons, List.length_take, List.length_drop, List.length_nil]; omega
 by_cases k2 : (nextF (jsonF 3 x).2 6).1 = 2
 ·have h5 := pickF_ok (c := 14) (L := oddTexts) (h2.1.less (by omega)) (by decide)
  have hl := odd_len _ h5.2
  refine ⟨(pickF (nextF (jsonF 3 x).2 6).2 oddTexts).1, (pickF (nextF (jsonF 3 x).2 6).2 oddTexts).2, by omega, ?_⟩
  refine fnOK_TL (E := EJT (.int .u8 0)) follows named (jtxtT x 0) (by simp) ?_
  simp only [WP_cond, T.WP, All, and_true, beq_iff_eq, beq_eq_false_iff_ne, ne_eq, srcOf_mk, jOf_eta]
  rintro y0 rfl
  refine ⟨hc, ?_⟩
  rw [ht]
  rintro y1 rfl
  refine ⟨hp, ?_⟩
  rintro y2 rfl
  refine ⟨next_ok _ _ h1, fun h => absurd h k0, fun _ => ⟨fun h => absurd h k1, fun _ => ⟨fun _ => ?_, fun h => absurd k2 h⟩⟩⟩
  rintro y3 rfl
  exact ⟨pick_ex (c := 14) (nextF (jsonF 3 x).2 6).2 oddTexts true rfl rfl rfl (h2.1.less (by omega)), ⟨rfl, rfl, by simp⟩⟩
 ·refine ⟨t, (nextF (jsonF 3 x).2 6).2, by omega, ?_⟩
  refine fnOK_TL (E := EJT (.int .u8 0)) follows named (jtxtT x 0) (by simp) ?_
  simp only [WP_cond, T.WP, All, and_true, beq_iff_eq, beq_eq_false_iff_ne, ne_eq, srcOf_mk, jOf_eta]
  rintro y0 rfl
  refine ⟨hc, ?_⟩
  rw [ht]
  rintro y1 rfl
  refine ⟨hp, ?_⟩
  rintro y2 rfl
  exact ⟨next_ok _ _ h1, fun h => absurd h k0, fun _ => ⟨fun h => absurd h k1, fun _ => ⟨fun h => absurd h k2, fun _ => ⟨rfl, rfl, by simp⟩⟩⟩⟩
noncomputable def resTD (w : List UInt8) (x' : Src) : ResT := fun f vs hp => match vs, hp with
 | [.dsl _ _ cs], [] => bif Nat.beq f fSource then some ⟨(), fun _ => ⟨.ptr 0 0, [srcB (srcNew (decL encByte cs))], []⟩⟩ else none
 | [.ptr 0 0], [some ([.dsl _ _ _, .int _ _, .int _ _], _)] => bif Nat.beq f fJTxt then some ⟨(), fun _ => ⟨.str w, [srcB x'], [0]⟩⟩ else none
 | _, _ => none
--FOLD vwJ srcB
set_option maxRecDepth 100000 in
theorem tdrnT (w : List UInt8) (x' : Src) (l : List UInt8) : fnT { P := Tryz.prog, vw := vwA, res := resTD w x' } 0 fTDrn [sls encByte l] [] = (
 .bind PUnit.unit fun _ => .need [FnOK Tryz.prog 32 [.dsl l.length false (encs encByte l)] [] (Ret.mk (.ptr 0 0) [srcB (srcNew (decL encByte (encs encByte l)))] [])] (.bind PUnit.unit fun _ => .need [FnOK Tryz.prog 43 [.ptr 0 0] [srcB
 (srcNew (decL encByte (encs encByte l)))] (Ret.mk (.str w) [srcB x'] [0])] (.done (Ret.mk (.str w) [] []))) : T _) := (T.force_eq _).symm.trans (by kernel_rfl)
theorem tdrn_ok (l : List UInt8) (h : l.length ≤ 1048576) : ∃ w, w.length ≤ 2252 ∧ FnOK Tryz.prog fTDrn [sls encByte l] [] ⟨.str w, [], []⟩ := by
 have hs : (20 + qF 3) ≤ 1000000 := by decide
 have h0 : (srcNew l).OK (20 + qF 3) := Src.OK.less (srcNew_ok l h) hs
 obtain ⟨w, x', hw, hf⟩ := jtxt_ok _ h0
 refine ⟨w, hw, ?_⟩
 refine fnOK_TL (E := { P := Tryz.prog, vw := vwA, res := resTD w x' }) follows named (tdrnT w x' l) (by simp) ?_
 simp only [T.WP, All, and_true, layByte.decL]
 rintro - -
 refine ⟨source_ok l, ?_⟩
 rintro - -
 exact ⟨hf, ⟨rfl, rfl, by simp⟩⟩
end Go.Proofs.YtfncaghjfgnnhaaGreatDoor

namespace Go.Proofs.YtfncaghjfgnnhaaGreatDoor
open Go.RowKit
set_option maxRecDepth 100000
abbrev fSame : Nat := 37
noncomputable def stS2 (A B : List (List UInt8)) (i : Int) : St := ⟨mkTm 26 [(0, sls encStr A), (1, sls encStr B), (4, .bool false), (5, .int .i64 i)], [], []⟩
def nfS2 : Ex → Kp := fun ex => match ex with
 | .ret => { keep := [4] }
 | _ => { keep := [0, 1, 4, 5] }
set_option maxRecDepth 100000 in
theorem same1T (A B : List (List UInt8)) (i : Int) : bodyT E0 0 nfS2 (lp Tryz.prog fSame 0) (stS2 A B i) = (
 bif decide (i < (↑A.length : Int)) then .need [0 ≤ i ∧ i < (↑A.length : Int), List.take 1 (List.drop (Int.toNat i * 1) (encs encStr A)) = [.str (List.getD (decL encStr (encs encStr A)) (Int.toNat i) [])]] (.need [0 ≤ i ∧ i < (↑B.length :
 Int), List.take 1 (List.drop (Int.toNat i * 1) (encs encStr B)) = [.str (List.getD (decL encStr (encs encStr B)) (Int.toNat i) [])]] (bif !List.getD (decL encStr (encs encStr A)) (Int.toNat i) [] == List.getD (decL encStr (encs encStr B))
 (Int.toNat i) [] then .done (Ex.ret, St.mk (mkTm 26 [(4, .bool false)]) [] []) else .done (Ex.normal, St.mk (mkTm 26 [(0, .dsl A.length false (encs encStr A)), (1, .dsl B.length false (encs encStr B)), (4, .bool false), (5, .int .i64
 (IntKind.wrap IntKind.i64 (i + 1)))]) [] []))) else .done (Ex.exit 0, St.mk (mkTm 26 [(0, .dsl A.length false (encs encStr A)), (1, .dsl B.length false (encs encStr B)), (4, .bool false), (5, .int .i64 i)]) [] []) : T _) := by kernel_rfl
theorem same_end (A : List (List UInt8)) (i : Nat) (h : A.length ≤ i) : LoopTo Tryz.prog 0 (lp Tryz.prog fSame 0) (stS2 A A i) (.exit 0) (stS2 A A i) := by
 refine loopT (E := E0) follows named (same1T A A i) ?_
 simp only [WP_cond, T.WP, All, decide_eq_true_eq, decide_eq_false_iff_not, and_true]
 exact ⟨fun h => by omega, fun _ => ⟨rfl, rfl⟩⟩
theorem same_loop (A : List (List UInt8)) (hl : A.length ≤ 4294967296) : ∀ (m i : Nat), i + m = A.length → LoopTo Tryz.prog 0 (lp Tryz.prog fSame 0) (stS2 A A i) (.exit 0) (stS2 A A A.length)
 | 0, i, h => by
  obtain rfl : i = A.length := h
  exact same_end A _ (Nat.le_refl _)
 | m + 1, i, h => by
  refine loopT (E := E0) follows named (same1T A A i) ?_
  have hat := layStr.at A [] i 1 (by omega) rfl
  simp only [WP_cond, T.WP, All, decide_eq_true_eq, decide_eq_false_iff_not, and_true, Int.toNat_natCast, layStr.decL, wrap_succ (show i < 9223372036854775807 by omega)]
  refine ⟨fun _ => ⟨⟨by omega, hat⟩, ⟨by omega, hat⟩, fun h => ?_, fun _ => ?_⟩, fun h => by omega⟩
  ·simp at h
  ·exact same_loop A hl m (i + 1) (by omega)
noncomputable def lsSame : Nat → St → Option LRes := fun id s => match id, s.tm.get 0, s.tm.get 1 with
 | 0, .dsl _ _ cs, .dsl _ _ ds => some ⟨(), fun _ => .one { keep := [0, 1, 4, 5] } (stS2 (decL encStr cs) (decL encStr ds) 0) (.exit 0) (stS2 (decL encStr cs) (decL encStr ds) (decL encStr cs).length)⟩
 | _, _, _ => none
set_option maxRecDepth 100000 in
theorem sameT (A B : List (List UInt8)) : fnT { P := Tryz.prog, vw := vwA, res := res0, ls := lsSame } 0 fSame [sls encStr A, sls encStr B] [] = (
 bif (↑A.length : Int) != (↑B.length : Int) then .done (Ret.mk (.bool false) [] []) else .bind PUnit.unit fun _ => .need [St.mk (mkTm 26 [(0, .dsl A.length false (encs encStr A)), (1, .dsl B.length false (encs encStr B)), (4, .bool false),
 (5, .int .i64 0)]) [] [] = St.mk (mkTm 26 [(0, .dsl (List.length (decL encStr (encs encStr A))) false (encs encStr (decL encStr (encs encStr A)))), (1, .dsl (List.length (decL encStr (encs encStr B))) false (encs encStr (decL encStr (encs
 encStr B)))), (4, .bool false), (5, .int .i64 0)]) [] [], SoundC Tryz.prog 0 (blk Tryz.prog fSame 0) (St.mk (mkTm 26 [(0, .dsl (List.length (decL encStr (encs encStr A))) false (encs encStr (decL encStr (encs encStr A)))), (1, .dsl
 (List.length (decL encStr (encs encStr B))) false (encs encStr (decL encStr (encs encStr B)))), (4, .bool false), (5, .int .i64 0)]) [] []) (Ex.exit 0) (St.mk (mkTm 26 [(0, .dsl (List.length (decL encStr (encs encStr A))) false (encs encStr
 (decL encStr (encs encStr A)))), (1, .dsl (List.length (decL encStr (encs encStr B))) false (encs encStr (decL encStr (encs encStr B)))), (4, .bool false), (5, .int .i64 (↑(List.length (decL encStr (encs encStr A))) : Int))]) [] [])] (.done
 (Ret.mk (.bool true) [] [])) : T _) := by kernel_rfl
theorem same_ok (A : List (List UInt8)) (hl : A.length ≤ 4294967296) : FnOK Tryz.prog fSame [sls encStr A, sls encStr A] [] ⟨.bool true, [], []⟩ := by
 refine fnOK_TL (E := { P := Tryz.prog, vw := vwA, res := res0, ls := lsSame }) follows named (sameT A A) (by simp) ?_
 simp only [WP_cond, T.WP, All, and_true, layStr.decL]
 refine ⟨fun h => by simp at h, fun _ => ?_⟩
 intro y _
 exact ⟨⟨trivial, .loopTo (same_loop A hl A.length 0 (by omega))⟩, ⟨rfl, rfl, by simp⟩⟩
end Go.Proofs.YtfncaghjfgnnhaaGreatDoor

namespace Go.Proofs.YtfncaghjfgnnhaaGreatDoor
open Go.RowKit
set_option maxRecDepth 100000
abbrev fSameJ : Nat := 14
noncomputable def resSJ : ResT := fun f vs hp => match vs, hp with
 | [.agg [.int _ _, .int _ _, .str _, .dsl _ _ _, .dsl _ _ _], .agg _], [] => bif Nat.beq f fSameJ then some ⟨(), fun _ => ⟨.bool true, [], []⟩⟩ else none
 | [.dsl _ _ _, .dsl _ _ _], [] => bif Nat.beq f fSame then some ⟨(), fun _ => ⟨.bool true, [], []⟩⟩ else none
 | _, _ => none
noncomputable def ESJ : Env := { P := Tryz.prog, vw := vwA, res := resSJ }
def stSj (j : J) (i : Int) : St := ⟨mkTm 61 [(2, .ptr 0 0), (3, .ptr 1 0), (4, .bool false), (5, .int .i64 i)], [some (vwJ j, tJ), some (vwJ j, tJ)], []⟩
def nfSj : Ex → Kp := fun ex => match ex with
 | .ret => { keep := [4] }
 | .normal => { keep := [2, 3, 4, 5] }
 | _ => { keep := [] }
--FOLD vwJ
set_option maxRecDepth 100000 in
theorem sjL (j : J) (i : Int) : bodyT ESJ 0 nfSj (lp Tryz.prog fSameJ 0) (stSj j i) = (
 bif decide (i < (↑(List.length (J.items j)) : Int)) then .need [0 ≤ i ∧ i < (↑(List.length (J.items j)) : Int), List.take 5 (List.drop (Int.toNat i * 5) (encs encJ (J.items j))) = vwJ (List.getD (decL encJ (encs encJ (J.items j)))
 (Int.toNat i) (J.mk (0 : Int) (0 : Int) [] [] []))] (.need [0 ≤ i ∧ i < (↑(List.length (J.items j)) : Int), List.take 5 (List.drop (Int.toNat i * 5) (encs encJ (J.items j))) = vwJ (List.getD (decL encJ (encs encJ (J.items j))) (Int.toNat i)
 (J.mk (0 : Int) (0 : Int) [] [] []))] (.bind PUnit.unit fun _ => .need [FnOK (Env.P ESJ) 14 [.agg (vwJ (List.getD (decL encJ (encs encJ (J.items j))) (Int.toNat i) (J.mk (0 : Int) (0 : Int) [] [] []))), .agg (vwJ (List.getD (decL encJ
 (encs encJ (J.items j))) (Int.toNat i) (J.mk (0 : Int) (0 : Int) [] [] [])))] [] (Ret.mk (.bool true) [] [])] (.done (Ex.normal, St.mk (mkTm 61 [(2, .ptr 0 0), (3, .ptr 1 0), (4, .bool false), (5, .int .i64 (IntKind.wrap IntKind.i64 (i +
 1)))]) [some (vwJ j, 25), some (vwJ j, 25)] [])))) else .done (Ex.exit 0, St.mk (mkTm 61 []) [] []) : T _) := by kernel_rfl
theorem sj_loop (j : J) (hL : ∀ x ∈ j.items, FnOK Tryz.prog fSameJ [.agg (vwJ x), .agg (vwJ x)] [] ⟨.bool true, [], []⟩) (hl : j.items.length ≤ 4294967296) : ∀ (m i : Nat), i + m = j.items.length →
  LoopTo Tryz.prog 0 (lp Tryz.prog fSameJ 0) (stSj j i) (.exit 0) ⟨mkTm 61 [], [], []⟩
 | 0, i, h => by
  obtain rfl : i = j.items.length := h
  refine loopT (E := ESJ) follows named (sjL j _) ?_
  simp only [WP_cond, T.WP, All, decide_eq_true_eq, decide_eq_false_iff_not, and_true]
  exact ⟨fun h => by omega, fun _ => ⟨rfl, rfl⟩⟩
 | m + 1, i, h => by
  refine loopT (E := ESJ) follows named (sjL j i) ?_
  have hat := vwJ_at j.items i (by omega)
  simp only [WP_cond, T.WP, All, decide_eq_true_eq, decide_eq_false_iff_not, and_true, Int.toNat_natCast, layJ.decL, wrap_succ (show i < 9223372036854775807 by omega), show J.mk 0 0 [] [] [] = J.zero from rfl]
  refine ⟨fun _ => ⟨⟨by omega, hat⟩, ⟨by omega, hat⟩, ?_⟩, fun h => by omega⟩
  rintro y -
  exact ⟨hL _ (j_mem (by omega)), sj_loop j hL hl m (i + 1) (by omega)⟩
noncomputable def lsSj (j : J) : Nat → St → Option LRes := fun id _ => match id with
 | 0 => some ⟨(), fun _ => .one { keep := [2, 3, 4, 5] } (stSj j 0) (.exit 0) ⟨mkTm 61 [], [], []⟩⟩
 | _ => none
set_option maxRecDepth 100000 in
theorem sjT (j : J) : fnT { P := Tryz.prog, vw := vwA, res := resSJ, ls := lsSj j } 0 fSameJ [.agg (vwJ j), .agg (vwJ j)] [] = (
 bif J.kind j != J.kind j then .done (Ret.mk (.bool false) [] []) else bif J.n j != J.n j then .done (Ret.mk (.bool false) [] []) else bif !J.t j == J.t j then .done (Ret.mk (.bool false) [] []) else .bind PUnit.unit fun _ => .need [FnOK
 Tryz.prog 37 [.dsl (List.length (J.keys j)) false (encs encStr (J.keys j)), .dsl (List.length (J.keys j)) false (encs encStr (J.keys j))] [] (Ret.mk (.bool true) [] [])] (bif (↑(List.length (J.items j)) : Int) != (↑(List.length (J.items j))
 : Int) then .done (Ret.mk (.bool false) [] []) else .bind PUnit.unit fun _ => .need [St.mk (mkTm 61 [(2, .ptr 0 0), (3, .ptr 1 0), (4, .bool false), (5, .int .i64 0)]) [some (vwJ j, 25), some (vwJ j, 25)] [] = St.mk (mkTm 61 [(2, .ptr 0
 0), (3, .ptr 1 0), (4, .bool false), (5, .int .i64 0)]) [some (vwJ j, 25), some (vwJ j, 25)] [], SoundC Tryz.prog 0 (blk Tryz.prog fSameJ 0) (St.mk (mkTm 61 [(2, .ptr 0 0), (3, .ptr 1 0), (4, .bool false), (5, .int .i64 0)]) [some (vwJ j,
 25), some (vwJ j, 25)] []) (Ex.exit 0) (St.mk (mkTm 61 []) [] [])] (.done (Ret.mk (.bool true) [] []))) : T _) := by kernel_rfl
theorem sj_ok : ∀ (m : Nat) (j : J), jn j ≤ m → m ≤ 1000 → RJ j → FnOK Tryz.prog fSameJ [.agg (vwJ j), .agg (vwJ j)] [] ⟨.bool true, [], []⟩
 | 0, j, hm, _, _ => by rw [jn_eq] at hm; omega
 | m + 1, j, hm, hm2, hr => by
  have hn := jn_eq j
  have hl := jns_length j.items
  have hk := (part_flds hr.part).kl
  refine fnOK_TL (E := { P := Tryz.prog, vw := vwA, res := resSJ, ls := lsSj j }) follows named (sjT j) (by simp) ?_
  simp only [WP_cond, T.WP, All, and_true, ne_eq, bne_iff_ne, bne_eq_false_iff_eq, ne_eq]
  have h := sj_loop j (fun x hx => sj_ok m x (by have := jns_mem x hx; omega) (by omega) (hr.item x hx)) (by omega) j.items.length 0 (by omega)
  refine ⟨fun h => absurd trivial h, fun _ => ⟨fun h => absurd trivial h, fun _ => ⟨fun h => by simp at h, fun _ => ?_⟩⟩⟩
  rintro y -
  refine ⟨same_ok _ (by omega), fun h => absurd trivial h, fun _ => ?_⟩
  rintro y -
  exact ⟨⟨trivial, .loopTo h⟩, ⟨rfl, rfl, by simp⟩⟩
end Go.Proofs.YtfncaghjfgnnhaaGreatDoor

namespace Go.Proofs.YtfncaghjfgnnhaaGreatDoor
open Go.RowKit
set_option maxRecDepth 100000
abbrev fEqS : Nat := 65
abbrev fEqJ : Nat := 66
abbrev fISame : Nat := 44
abbrev fISameJ : Nat := 22
def stEs (L : List (List UInt8)) (i : Int) : St := ⟨mkTm 26 [(0, sls encStr L), (1, sls encStr L), (12, .int .i64 L.length), (13, .int .i64 i)], [], []⟩
def nfEs : Ex → Kp := fun ex => match ex with
 | .ret => { keep := [4] }
 | .normal => { keep := [0, 1, 12, 13] }
 | _ => { keep := [] }
set_option maxRecDepth 100000 in
theorem eqsL (L : List (List UInt8)) (i : Int) : bodyT { P := Tryz.prog, vw := vwA, res := res0 } 0 nfEs (lp Tryz.prog fEqS 0) (stEs L i) = (
 bif decide (i < (↑L.length : Int)) then .need [0 ≤ i ∧ i < (↑L.length : Int), List.take 1 (List.drop (Int.toNat i * 1) (encs encStr L)) = [.str (List.getD (decL encStr (encs encStr L)) (Int.toNat i) [])]] (.need [0 ≤ i ∧ i < (↑L.length :
 Int), List.take 1 (List.drop (Int.toNat i * 1) (encs encStr L)) = [.str (List.getD (decL encStr (encs encStr L)) (Int.toNat i) [])]] (bif !List.getD (decL encStr (encs encStr L)) (Int.toNat i) [] == List.getD (decL encStr (encs encStr L))
 (Int.toNat i) [] then .done (Ex.ret, St.mk (mkTm 26 [(4, .bool false)]) [] []) else .done (Ex.normal, St.mk (mkTm 26 [(0, .dsl L.length false (encs encStr L)), (1, .dsl L.length false (encs encStr L)), (12, .int .i64 (↑L.length : Int)),
 (13, .int .i64 (IntKind.wrap IntKind.i64 (i + 1)))]) [] []))) else .done (Ex.exit 0, St.mk (mkTm 26 []) [] []) : T _) := by kernel_rfl
theorem eqs_loop (L : List (List UInt8)) (hl : L.length ≤ 4294967296) : ∀ (m i : Nat), i + m = L.length →
  LoopTo Tryz.prog 0 (lp Tryz.prog fEqS 0) (stEs L i) (.exit 0) ⟨mkTm 26 [], [], []⟩
 | 0, i, h => by
  obtain rfl : i = L.length := h
  refine loopT (E := { P := Tryz.prog, vw := vwA, res := res0 }) follows named (eqsL L _) ?_
  simp only [WP_cond, T.WP, All, decide_eq_true_eq, decide_eq_false_iff_not, and_true]
  exact ⟨fun h => by omega, fun _ => ⟨rfl, rfl⟩⟩
 | m + 1, i, h => by
  refine loopT (E := { P := Tryz.prog, vw := vwA, res := res0 }) follows named (eqsL L i) ?_
  have hat := layStr.at L [] i 1 (by omega) rfl
  simp only [WP_cond, T.WP, All, decide_eq_true_eq, decide_eq_false_iff_not, and_true, Int.toNat_natCast, layStr.decL, wrap_succ (show i < 9223372036854775807 by omega)]
  have ih := eqs_loop L hl m (i + 1) (by omega)
  exact ⟨fun _ => ⟨⟨by omega, hat⟩, ⟨by omega, hat⟩, fun h => by simp at h, fun _ => ih⟩, fun h => by omega⟩
noncomputable def lsEs (L : List (List UInt8)) : Nat → St → Option LRes := fun id _ => match id with
 | 0 => some ⟨(), fun _ => .one { keep := [0, 1, 12, 13] } (stEs L 0) (.exit 0) ⟨mkTm 26 [], [], []⟩⟩
 | _ => none
set_option maxRecDepth 100000 in
theorem eqsT (L : List (List UInt8)) : fnT { P := Tryz.prog, vw := vwA, res := res0, ls := lsEs L } 0 fEqS [sls encStr L, sls encStr L] [] = (
 bif (↑L.length : Int) != (↑L.length : Int) then .done (Ret.mk (.bool false) [] []) else .bind PUnit.unit fun _ => .need [St.mk (mkTm 26 [(0, .dsl L.length false (encs encStr L)), (1, .dsl L.length false (encs encStr L)), (12, .int .i64
 (↑L.length : Int)), (13, .int .i64 0)]) [] [] = St.mk (mkTm 26 [(0, .dsl L.length false (encs encStr L)), (1, .dsl L.length false (encs encStr L)), (12, .int .i64 (↑L.length : Int)), (13, .int .i64 0)]) [] [], SoundC Tryz.prog 0 (blk
 Tryz.prog fEqS 0) (St.mk (mkTm 26 [(0, .dsl L.length false (encs encStr L)), (1, .dsl L.length false (encs encStr L)), (12, .int .i64 (↑L.length : Int)), (13, .int .i64 0)]) [] []) (Ex.exit 0) (St.mk (mkTm 26 []) [] [])] (.done (Ret.mk
 (.bool true) [] [])) : T _) := by kernel_rfl
theorem eqs_ok (L : List (List UInt8)) (hl : L.length ≤ 4294967296) : FnOK Tryz.prog fEqS [sls encStr L, sls encStr L] [] ⟨.bool true, [], []⟩ := by
 refine fnOK_TL (E := { P := Tryz.prog, vw := vwA, res := res0, ls := lsEs L }) follows named (eqsT L) (by simp) ?_
 simp only [WP_cond, T.WP, All, and_true, ne_eq, bne_iff_ne, bne_eq_false_iff_eq, ne_eq]
 refine ⟨fun h => absurd trivial h, fun _ => ?_⟩
 rintro y -
 exact ⟨⟨trivial, .loopTo (eqs_loop L hl L.length 0 (by omega))⟩, ⟨rfl, rfl, by simp⟩⟩
noncomputable def resEq : ResT := fun f vs hp => match vs, hp with
 | [.agg [.int _ _, .int _ _, .str _, .dsl _ _ _, .dsl _ _ _], .agg _], [] => bif Nat.beq f fISame then some ⟨(), fun _ => ⟨.bool true, [], []⟩⟩ else none
 | [.dsl _ _ _, .dsl _ _ _], [] => bif Nat.beq f fEqS then some ⟨(), fun _ => ⟨.bool true, [], []⟩⟩ else none
 | [.dsl _ _ _, .dsl _ _ _, _], [] => bif Nat.beq f fEqJ then some ⟨(), fun _ => ⟨.bool true, [], []⟩⟩ else none
 | _, _ => none
noncomputable def EEq : Env := { P := Tryz.prog, vw := vwA, res := resEq }
def stEj (L : List J) (i : Int) : St := ⟨mkTm 32 [(1, sls encJ L), (2, .fn fISame []), (15, sls encJ L), (16, .int .i64 L.length), (17, .int .i64 i)], [], []⟩
def nfEj : Ex → Kp := fun ex => match ex with
 | .ret => { keep := [6] }
 | .normal => { keep := [1, 2, 15, 16, 17] }
 | _ => { keep := [] }
--FOLD vwJ
set_option maxRecDepth 100000 in
theorem eqjL (L : List J) (i : Int) : bodyT EEq 0 nfEj (lp Tryz.prog fEqJ 0) (stEj L i) = (
 bif decide (i < (↑L.length : Int)) then .need [0 ≤ i ∧ i < (↑L.length : Int), List.take 5 (List.drop (Int.toNat i * 5) (encs encJ L)) = vwJ (List.getD (decL encJ (encs encJ L)) (Int.toNat i) (J.mk (0 : Int) (0 : Int) [] [] []))] (.need [0 ≤
 i ∧ i < (↑L.length : Int), List.take 5 (List.drop (Int.toNat i * 5) (encs encJ L)) = vwJ (List.getD (decL encJ (encs encJ L)) (Int.toNat i) (J.mk (0 : Int) (0 : Int) [] [] []))] (.bind PUnit.unit fun _ => .need [FnOK (Env.P EEq) 44 [.agg
 (vwJ (List.getD (decL encJ (encs encJ L)) (Int.toNat i) (J.mk (0 : Int) (0 : Int) [] [] []))), .agg (vwJ (List.getD (decL encJ (encs encJ L)) (Int.toNat i) (J.mk (0 : Int) (0 : Int) [] [] [])))] [] (Ret.mk (.bool true) [] [])] (.done
 (Ex.normal, St.mk (mkTm 32 [(1, .dsl L.length false (encs encJ L)), (2, .fn 44 []), (15, .dsl L.length false (encs encJ L)), (16, .int .i64 (↑L.length : Int)), (17, .int .i64 (IntKind.wrap IntKind.i64 (i + 1)))]) [] [])))) else .done
 (Ex.exit 0, St.mk (mkTm 32 []) [] []) : T _) := by kernel_rfl
theorem eqj_loop (L : List J) (hl : L.length ≤ 4294967296) (hL : ∀ x ∈ L, FnOK Tryz.prog fISame [.agg (vwJ x), .agg (vwJ x)] [] ⟨.bool true, [], []⟩) : ∀ (m i : Nat), i + m = L.length →
  LoopTo Tryz.prog 0 (lp Tryz.prog fEqJ 0) (stEj L i) (.exit 0) ⟨mkTm 32 [], [], []⟩
 | 0, i, h => by
  obtain rfl : i = L.length := h
  refine loopT (E := EEq) follows named (eqjL L _) ?_
  simp only [WP_cond, T.WP, All, decide_eq_true_eq, decide_eq_false_iff_not, and_true]
  exact ⟨fun h => by omega, fun _ => ⟨rfl, rfl⟩⟩
 | m + 1, i, h => by
  refine loopT (E := EEq) follows named (eqjL L i) ?_
  have hat := vwJ_at L i (by omega)
  simp only [WP_cond, T.WP, All, decide_eq_true_eq, decide_eq_false_iff_not, and_true, Int.toNat_natCast, layJ.decL, wrap_succ (show i < 9223372036854775807 by omega), show J.mk 0 0 [] [] [] = J.zero from rfl]
  refine ⟨fun _ => ⟨⟨by omega, hat⟩, ⟨by omega, hat⟩, ?_⟩, fun h => by omega⟩
  rintro y -
  exact ⟨hL _ (j_mem (by omega)), eqj_loop L hl hL m (i + 1) (by omega)⟩
noncomputable def lsEj (L : List J) : Nat → St → Option LRes := fun id _ => match id with
 | 0 => some ⟨(), fun _ => .one { keep := [1, 2, 15, 16, 17] } (stEj L 0) (.exit 0) ⟨mkTm 32 [], [], []⟩⟩
 | _ => none
set_option maxRecDepth 100000 in
theorem eqjT (L : List J) : fnT { P := Tryz.prog, vw := vwA, res := res0, ls := lsEj L } 0 fEqJ [sls encJ L, sls encJ L, .fn fISame []] [] = (
 bif (↑L.length : Int) != (↑L.length : Int) then .done (Ret.mk (.bool false) [] []) else .bind PUnit.unit fun _ => .need [St.mk (mkTm 32 [(1, .dsl L.length false (encs encJ L)), (2, .fn 44 []), (15, .dsl L.length false (encs encJ L)), (16,
 .int .i64 (↑L.length : Int)), (17, .int .i64 0)]) [] [] = St.mk (mkTm 32 [(1, .dsl L.length false (encs encJ L)), (2, .fn 44 []), (15, .dsl L.length false (encs encJ L)), (16, .int .i64 (↑L.length : Int)), (17, .int .i64 0)]) [] [], SoundC
 Tryz.prog 0 (blk Tryz.prog fEqJ 0) (St.mk (mkTm 32 [(1, .dsl L.length false (encs encJ L)), (2, .fn 44 []), (15, .dsl L.length false (encs encJ L)), (16, .int .i64 (↑L.length : Int)), (17, .int .i64 0)]) [] []) (Ex.exit 0) (St.mk (mkTm 32
 []) [] [])] (.done (Ret.mk (.bool true) [] [])) : T _) := by kernel_rfl
theorem eqj_ok (L : List J) (hl : L.length ≤ 4294967296) (hL : ∀ x ∈ L, FnOK Tryz.prog fISame [.agg (vwJ x), .agg (vwJ x)] [] ⟨.bool true, [], []⟩) : FnOK Tryz.prog fEqJ [sls encJ L, sls encJ L, .fn fISame []] [] ⟨.bool true, [], []⟩ := by
 refine fnOK_TL (E := { P := Tryz.prog, vw := vwA, res := res0, ls := lsEj L }) follows named (eqjT L) (by simp) ?_
 simp only [WP_cond, T.WP, All, and_true, ne_eq, bne_iff_ne, bne_eq_false_iff_eq, ne_eq]
 refine ⟨fun h => absurd trivial h, fun _ => ?_⟩
 rintro y -
 exact ⟨⟨trivial, .loopTo (eqj_loop L hl hL L.length 0 (by omega))⟩, ⟨rfl, rfl, by simp⟩⟩
set_option maxRecDepth 100000 in
theorem isameT (j : J) : fnT EEq 0 fISame [.agg (vwJ j), .agg (vwJ j)] [] = (
 bif J.kind j == J.kind j then bif J.n j == J.n j then bif J.t j == J.t j then .bind PUnit.unit fun _ => .need [FnOK (Env.P EEq) 65 [.dsl (List.length (J.keys j)) false (encs encStr (J.keys j)), .dsl (List.length (J.keys j)) false (encs
 encStr (J.keys j))] [] (Ret.mk (.bool true) [] [])] (.bind PUnit.unit fun _ => .need [FnOK (Env.P EEq) 66 [.dsl (List.length (J.items j)) false (encs encJ (J.items j)), .dsl (List.length (J.items j)) false (encs encJ (J.items j)), .fn 44
 []] [] (Ret.mk (.bool true) [] [])] (.done (Ret.mk (.bool true) [] []))) else .done (Ret.mk (.bool false) [] []) else .done (Ret.mk (.bool false) [] []) else .done (Ret.mk (.bool false) [] []) : T _) := by kernel_rfl
theorem isame_ok : ∀ (m : Nat) (j : J), jn j ≤ m → m ≤ 1000 → RJ j → FnOK Tryz.prog fISame [.agg (vwJ j), .agg (vwJ j)] [] ⟨.bool true, [], []⟩
 | 0, j, hm, _, _ => by rw [jn_eq] at hm; omega
 | m + 1, j, hm, hm2, hr => by
  have hn := jn_eq j
  have hl := jns_length j.items
  have hk := (part_flds hr.part).kl
  refine fnOK_TL (E := EEq) follows named (isameT j) (by simp) ?_
  simp only [WP_cond, T.WP, All, and_true, beq_iff_eq, beq_eq_false_iff_ne, ne_eq, ne_eq]
  have h := eqj_ok j.items (by omega) (fun x hx => isame_ok m x (by have := jns_mem x hx; omega) (by omega) (hr.item x hx))
  have hs := eqs_ok j.keys (by omega)
  refine ⟨fun _ => ⟨fun _ => ⟨fun _ => ?_, fun h => absurd trivial h⟩, fun h => absurd trivial h⟩, fun h => absurd trivial h⟩
  rintro y -
  refine ⟨hs, ?_⟩
  rintro y -
  exact ⟨h, ⟨rfl, rfl, by simp⟩⟩
noncomputable def resSmJ : ResT := fun f vs hp => match vs, hp with
 | [.agg [.int _ _, .int _ _, .str _, .dsl _ _ _, .dsl _ _ _]], [] => bif Nat.beq f fIJsonOK then some ⟨(), fun _ => ⟨.bool true, [], []⟩⟩ else none
 | [.agg [.int _ _, .int _ _, .str _, .dsl _ _ _, .dsl _ _ _], .agg _], [] => bif Nat.beq f fISame then some ⟨(), fun _ => ⟨.bool true, [], []⟩⟩ else none
 | _, _ => none
set_option maxRecDepth 100000 in
theorem ismjT (j : J) : fnT { P := Tryz.prog, vw := vwA, res := resSmJ } 0 fISameJ [.agg (vwJ j), .agg (vwJ j)] [] = (
 .bind PUnit.unit fun _ => .need [FnOK Tryz.prog 15 [.agg (vwJ j)] [] (Ret.mk (.bool true) [] [])] (.bind PUnit.unit fun _ => .need [FnOK Tryz.prog 15 [.agg (vwJ j)] [] (Ret.mk (.bool true) [] [])] (.bind PUnit.unit fun _ => .need [FnOK
 Tryz.prog 44 [.agg (vwJ j), .agg (vwJ j)] [] (Ret.mk (.bool true) [] [])] (.done (Ret.mk (.bool true) [] [])))) : T _) := (T.force_eq _).symm.trans (by kernel_rfl)
theorem ismj_ok (j : J) (h : okJ j = true) : FnOK Tryz.prog fISameJ [.agg (vwJ j), .agg (vwJ j)] [] ⟨.bool true, [], []⟩ := by
 obtain ⟨hr, hn⟩ := okJ_rj h
 have hk := jsonOK_ok j (hr.mj 400 hn (by omega))
 rw [h] at hk
 refine fnOK_TL (E := { P := Tryz.prog, vw := vwA, res := resSmJ }) follows named (ismjT j) (by simp) ?_
 simp only [T.WP, All, and_true]
 rintro y -
 refine ⟨hk, ?_⟩
 rintro y -
 refine ⟨hk, ?_⟩
 rintro y -
 exact ⟨isame_ok 400 j hn (by omega) hr, ⟨rfl, rfl, by simp⟩⟩
theorem sparse_ok' (t : List UInt8) (ht : t.length ≤ 65536) : FnOK Tryz.prog fSParse [.str t] [] ⟨.tup [.agg (vwJ (iPar t).1), .bool (iPar t).2], [], []⟩ := by
 rw [← par_eq t (by omega)]
 exact sparse_ok t ht (sVal_pf 12 ⟨t, 0, true⟩ (by show t.length ≤ 1000000; omega)).1
theorem sparseJ_ok (t : List UInt8) : FnOK Tryz.prog fSParseJ [.str t] [] ⟨.tup [.agg (vwJ (iPJ t).1), .int .i64 (iPJ t).2], [], []⟩ := by
 refine fnOK_TL (E := ESPa) follows named (sparseJT t) (by simp) ?_
 simp only [WP_cond, T.WP, All, decide_eq_true_eq, decide_eq_false_iff_not, and_true]
 refine ⟨fun h => ?_, fun h => ?_⟩
 ·unfold iPJ; rw [decide_eq_false (by omega)]; exact ⟨rfl, rfl, by simp⟩
 ·have ht : t.length ≤ 65536 := by omega
  have he := par_eq t (by omega)
  rintro y rfl
  refine ⟨?_, fun h1 => ?_, fun h1 => ?_⟩
  ·rw [he]; exact sparse_ok' t ht
  ·rw [he] at h1
   have h1 : (iPar t).2 = false := by simpa using h1
   unfold iPJ; rw [decide_eq_true ht, h1]; exact ⟨rfl, rfl, by simp⟩
  ·rw [he] at h1 ⊢
   have h1 : (iPar t).2 = true := by simpa using h1
   unfold iPJ; rw [decide_eq_true ht, h1]; exact ⟨rfl, rfl, by simp⟩
theorem ipj_of (t : List UInt8) (ht : t.length ≤ 65536) : ((iPJ t).2 = 0 ∧ okJ (iPJ t).1 = true ∧ iPJ (pj (iPJ t).1) = ((iPJ t).1, 0)) ∨ ((iPJ t).2 = 3 ∧ (iPJ t).1 = J.zero) := by
 cases h : (iPar t).2 with
 | false =>
  right
  unfold iPJ
  rw [decide_eq_true ht, h]
  exact ⟨rfl, rfl⟩
 | true =>
  left
  obtain ⟨⟨rd, nd, len⟩, _⟩ := ipar_rd h
  have hk := rd.okj nd
  have e : iPJ t = ((iPar t).1, 0) := by unfold iPJ; rw [decide_eq_true ht, h]; rfl
  rw [e]
  refine ⟨rfl, hk, ?_⟩
  have e1 := rt 12 (iPar t).1 0 400 [] (by omega) rfl (by omega) hk noNm_nil
  rw [List.append_nil] at e1
  have e2 : iPar (pj (iPar t).1) = ((iPar t).1, true) := by
   unfold iPar iVal0 iEnd at *
   rw [e1]; rfl
  show iPJ (pj (iPar t).1) = _
  unfold iPJ
  rw [decide_eq_true (by omega), e2]; rfl
abbrev fLawP : Nat := 5
noncomputable def resLP (w : List UInt8) : ResT := fun f vs hp => match vs, hp with
 | [.dsl _ _ _], [] => bif Nat.beq f fTDrn then some ⟨w, fun y => ⟨.str y, [], []⟩⟩ else none
 | [.str t], [] => bif Nat.beq f fParseJson || Nat.beq f fSParseJ then some ⟨iPJ t, fun y => ⟨.tup [.agg (vwJ y.1), .int .i64 y.2], [], []⟩⟩ else none
 | [.agg [.int _ k, .int _ n, .str t, .dsl _ _ ks, .dsl _ _ its]], [] => bif Nat.beq f fIPrintJson then some ⟨pj (jOf k n t ks its), fun y => ⟨.tup [.str y, .int .i64 0], [], []⟩⟩ else none
 | [.agg [.int _ _, .int _ _, .str _, .dsl _ _ _, .dsl _ _ _], .agg _], [] => bif Nat.beq f fSameJ || Nat.beq f fISameJ then some ⟨(), fun _ => ⟨.bool true, [], []⟩⟩ else none
 | _, _ => none
noncomputable def ELP (w : List UInt8) : Env := { P := Tryz.prog, vw := vwA, res := resLP w }
set_option maxRecDepth 100000 in
theorem lawPT (w a : List UInt8) : fnT (ELP w) 0 fLawP [sls encByte a] [] = (
 bif decide ((↑a.length : Int) > 1048576) then .done (Ret.mk (.bool true) [] []) else .bind w fun y0 => .need [FnOK Tryz.prog 21 [.dsl a.length false (encs encByte a)] [] (Ret.mk (.str y0) [] [])] (.need [1 + y0.length ≤ 4611686018427387904]
 (.need [List.length ([(91 : UInt8)] ++ y0) + 1 ≤ 4611686018427387904] (.bind (iPJ ([(91 : UInt8)] ++ y0 ++ [(93 : UInt8)])) fun y1 => .need [FnOK Tryz.prog 7 [.str ([(91 : UInt8)] ++ y0 ++ [(93 : UInt8)])] [] (Ret.mk (.tup [.agg (vwJ y1.1),
 .int .i64 y1.2]) [] [])] (.bind (iPJ ([(91 : UInt8)] ++ y0 ++ [(93 : UInt8)])) fun y2 => .need [FnOK Tryz.prog 6 [.str ([(91 : UInt8)] ++ y0 ++ [(93 : UInt8)])] [] (Ret.mk (.tup [.agg (vwJ y2.1), .int .i64 y2.2]) [] [])] (bif y1.2 != y2.2
 then .done (Ret.mk (.bool false) [] []) else .bind PUnit.unit fun _ => .need [FnOK Tryz.prog 14 [.agg (vwJ y1.1), .agg (vwJ y2.1)] [] (Ret.mk (.bool true) [] [])] (bif y1.2 != 0 then .done (Ret.mk (.bool (y1.2 == 3)) [] []) else .bind (pj
 (jOf (J.kind y1.1) (J.n y1.1) (J.t y1.1) (encs encStr (J.keys y1.1)) (encs encJ (J.items y1.1)))) fun y4 => .need [FnOK Tryz.prog 12 [.agg (vwJ y1.1)] [] (Ret.mk (.tup [.str y4, .int .i64 0]) [] [])] (.bind (iPJ y4) fun y5 => .need [FnOK
 Tryz.prog 7 [.str y4] [] (Ret.mk (.tup [.agg (vwJ y5.1), .int .i64 y5.2]) [] [])] (.bind (pj (jOf (J.kind y5.1) (J.n y5.1) (J.t y5.1) (encs encStr (J.keys y5.1)) (encs encJ (J.items y5.1)))) fun y6 => .need [FnOK Tryz.prog 12 [.agg (vwJ
 y5.1)] [] (Ret.mk (.tup [.str y6, .int .i64 0]) [] [])] (bif y5.2 == 0 then bif y4 == y6 then .bind PUnit.unit fun _ => .need [FnOK Tryz.prog 22 [.agg (vwJ y1.1), .agg (vwJ y5.1)] [] (Ret.mk (.bool true) [] [])] (.done (Ret.mk (.bool true)
 [] [])) else .done (Ret.mk (.bool false) [] []) else .done (Ret.mk (.bool false) [] [])))))))))) : T _) := by kernel_rfl
theorem rj_zero : RJ J.zero := .mk (by decide) (fun x hx => by cases hx)
theorem lawP_ok (a : List UInt8) : FnOK Tryz.prog fLawP [sls encByte a] [] ⟨.bool true, [], []⟩ := by
 by_cases ha : a.length ≤ 1048576
 ·obtain ⟨w, hw, hd⟩ := tdrn_ok a ha
  refine fnOK_TL (E := ELP w) follows named (lawPT w a) (by simp) ?_
  simp only [WP_cond, T.WP, All, decide_eq_true_eq, decide_eq_false_iff_not, and_true, beq_iff_eq, beq_eq_false_iff_ne, ne_eq, bne_iff_ne, bne_eq_false_iff_eq, jOf_eta]
  refine ⟨fun h => by omega, fun _ => ?_⟩
  rintro y0 rfl
  refine ⟨hd, by omega, by simp only [List.length_append, List.length_singleton]; omega, ?_⟩
  have ht : ([91] ++ y0 ++ [93] : List UInt8).length ≤ 65536 := by simp only [List.length_append, List.length_singleton]; omega
  generalize ([91] ++ y0 ++ [93] : List UInt8) = t at *
  have hp := parseJson_ok t
  have hs := sparseJ_ok t
  have hv := ipj_of t ht
  rintro y1 rfl
  refine ⟨hp, ?_⟩
  rintro y2 rfl
  refine ⟨hs, fun h => absurd rfl h, fun _ => ?_⟩
  rintro y3 -
  generalize iPJ t = q at *
  obtain ⟨j, c⟩ := q
  rcases hv with ⟨h0, hk, hb⟩ | ⟨h0, hz⟩
  ·simp only at h0 hk hb ⊢
   subst h0
   obtain ⟨hr, hn⟩ := okJ_rj hk
   refine ⟨sj_ok 400 j hn (by omega) hr, fun h => absurd rfl h, fun _ => ?_⟩
   have hpr := printJson_ok j hk
   have hpp := parseJson_ok (pj j)
   rw [hb] at hpp
   rintro y4 rfl
   refine ⟨hpr, ?_⟩
   rintro y5 rfl
   rw [hb]
   refine ⟨hpp, ?_⟩
   rintro y6 rfl
   refine ⟨hpr, fun _ => ⟨fun _ => ?_, fun h => absurd rfl h⟩, fun h => absurd rfl h⟩
   rintro y7 -
   exact ⟨ismj_ok j hk, ⟨rfl, rfl, by simp⟩⟩
  ·simp only at h0 hz ⊢
   subst h0 hz
   refine ⟨sj_ok 400 J.zero (by decide) (by omega) rj_zero, fun _ => ⟨rfl, rfl, by simp⟩, fun h => by omega⟩
 ·refine fnOK_TL (E := ELP []) follows named (lawPT [] a) (by simp) ?_
  simp only [WP_cond, T.WP, All, decide_eq_true_eq, decide_eq_false_iff_not, and_true, beq_iff_eq, beq_eq_false_iff_ne, ne_eq]
  exact ⟨fun _ => ⟨rfl, rfl, by simp⟩, fun h => by omega⟩
end Go.Proofs.YtfncaghjfgnnhaaGreatDoor

namespace Go.Proofs.YtfncaghjfgnnhaaGreatDoor
open Go.RowKit Go.WideShapes Go.ChangeShapes
def Old (w : World) : Nat → Prop := fun k => k < w.heap.size
theorem evo_grown {I : Nat → Prop} {w w' : World} {X : Nat → Prop} (h : Evo I w w' X) (hX : ∀ k, ¬ X k) : w.grownBy w' none := ⟨h.os, h.tape, h.output, h.size, fun k hk _ => h.block k hk (hX k)⟩
def TabsLaid (P : Program) (w : World) : Prop := (∀ x ∈ tabs, ∀ g, P.globalNamed x.1 = some g → Lib.TabIs P w x.1 x.2.1 x.2.2) ∧ ∀ x ∈ errVars, ∀ g, P.globalNamed x = some g → ∃ ev, w.cell? ⟨g, 0, none⟩ = some ev ∧ (ev = .nilIface ∨ ∃ te pe, ev = .iface te pe)
theorem tab_old {P : Program} {w : World} {name : String} {k : IntKind} {zs : List Int} {g : Nat} (h : Lib.TabIs P w name k zs) (hg : P.globalNamed name = some g) : g < w.heap.size := by
 unfold Lib.TabIs World.var? at h
 rw [hg] at h
 simp only [Option.bind_some] at h
 rcases Nat.lt_or_ge g w.heap.size with h1 | h1
 ·exact h1
 ·rw [Array.getElem?_eq_none h1] at h; simp at h
theorem cell_old {w : World} {g : Nat} {ev : Value} (h : w.cell? ⟨g, 0, none⟩ = some ev) : g < w.heap.size := by
 unfold World.cell? at h
 rcases Nat.lt_or_ge g w.heap.size with h1 | h1
 ·exact h1
 ·rw [Array.getElem?_eq_none h1] at h; simp at h
theorem FnOK.said {P : Program} {f : FuncId} {vs : List V} {vals : Array Value} {w : World} (h : FnOK P f vs [] ⟨.bool true, [], []⟩) (hT : TabsLaid P w) (hv : V.RL P (Old w) noMu w vs vals.toList) :
  Calls P f vals w fun e w' => e = .returned (.bool true) ∧ w.grownBy w' none := by
 refine (h.2 (Old w) w noMu vals hv ⟨⟨fun k hk => hk, fun x hx g hg => ⟨tab_old (hT.1 x hx g hg) hg, hT.1 x hx g hg⟩, fun x hx g hg => by
  obtain ⟨ev, h1, h2⟩ := hT.2 x hx g hg
  exact ⟨cell_old h1, ev, h1, h2⟩⟩, by simp, by simp, fun _ _ _ => rfl⟩ (fun b g hb => by cases hb)).mono ?_
 rintro e w' ⟨val, μ', I', rfl, hR, hG⟩
 simp only [V.R] at hR
 subst hR
 exact ⟨rfl, evo_grown hG.evo fun k hk => by obtain ⟨b, hb, _⟩ := hk; simp at hb⟩
theorem row_at {w : World} {a : Addr} {f : Nat → Value} {n : Nat} (hs : a.spot = none) (hn : 0 < n) (hc : ∀ i, i < n → w.cell? (a.add i) = some (f i)) :
  ∃ cells e fr, w.heap[a.block]? = some (.cells cells e fr) ∧ ∀ i, i < n → cells[a.off + i]? = some (f i) := by
 have h0 := hc 0 hn
 have hb : ∀ i, (a.add i) = ⟨a.block, a.off + i, none⟩ := by
  intro i
  unfold Addr.add
  split
  ·rename_i h; subst h; obtain ⟨b, o, s⟩ := a; simp only at hs; subst hs; rfl
  ·rfl
 rw [hb 0] at h0
 unfold World.cell? at h0
 split at h0
 ·rename_i cells e fr hh
  refine ⟨cells, e, fr, hh, fun i hi => ?_⟩
  have h1 := hc i hi
  rw [hb i] at h1
  unfold World.cell? at h1
  rw [hh] at h1
  simpa using h1
 ·cases h0
theorem RL_byts {P : Program} {I : Nat → Prop} {μ : Mu} {w : World} : ∀ l : List UInt8, V.RL P I μ w (encs encByte l) (l.map fun b => Value.int .u8 (b.toNat : Nat))
 | [] => by simp [encs, V.RL]
 | b :: l => by
  have : encs encByte (b :: l) = .int .u8 (b.toNat : Nat) :: encs encByte l := rfl
  rw [this, List.map_cons]
  simp only [V.RL, V.R]
  exact ⟨_, _, rfl, rfl, RL_byts l⟩
set_option maxRecDepth 100000 in
theorem bytes_of {H : Type} {enc : TypeId × Value → H} {w : World} {base base0 : Nat} {spare : Nat → Bool} {held : Bool} {v : Value} {d : DataW H} {p : List MemPlace}
  (hok : Value.okWide Tryz.prog w .any base0 31 v) (h : DataW.Trod enc Tryz.prog w base spare held 31 v d p) :
  ∃ l : List UInt8, V.R Tryz.prog (Old w) noMu w (sls encByte l) v := by
 obtain ⟨a0, l0, c0, rfl⟩ := okWide_slice Tryz.underlying31 hok
 have c9 : Tryz.prog.cellsOf 5 = 1 := by kernel_rfl
 obtain ⟨fuel, hf⟩ := h
 rcases open_ints Tryz.underlying31 Tryz.underlying5 c9 hf with ⟨hcs, _⟩ | ⟨ad, len, cap, zs, hcs, _, hl, hm, hlen, _, hcell, hws⟩
 ·simp [Value.cells] at hcs
  obtain ⟨rfl, rfl, rfl⟩ := hcs
  refine ⟨[], ?_⟩
  simp only [V.R]
  exact ⟨none, 0, rfl, Nat.le_refl _, fun h => (nomatch h), .inl ⟨rfl, rfl⟩, .inl rfl⟩
 ·simp [Value.cells] at hcs
  obtain ⟨rfl, rfl, rfl⟩ := hcs
  have hsp : ad.spot = none := by
   unfold Value.okWide at hok
   rw [Tryz.underlying31] at hok
   simp only [Cell.okWide, Tryz.underlying31, Cell.ok] at hok
   exact hok.2.2.2.1
  have hle : l0 ≤ zs.length := by rw [hlen]; split <;> omega
  let l : List UInt8 := (zs.take l0).map fun z => UInt8.ofNat z.toNat
  have hll : l.length = l0 := by simp only [l, List.length_map, List.length_take]; omega
  refine ⟨l, ?_⟩
  obtain ⟨g, off, s⟩ := ad
  simp only at hsp; subst hsp
  simp only [V.R]
  refine ⟨_, c0, by rw [hll], by omega, fun h => (nomatch h), .inr ⟨g, off, rfl⟩, ?_⟩
  by_cases h0 : l0 = 0
  ·left
   have : l = [] := List.eq_nil_of_length_eq_zero (by omega)
   rw [this]; rfl
  ·obtain ⟨cells, e, fr, hh, hat⟩ := row_at (a := ⟨g, off, none⟩) (n := l0) rfl (by omega) (fun i hi => hcell i (by omega))
   refine .inr <| .inr ⟨g, off, rfl, (Array.getElem?_eq_some_iff.1 hh).1, cells, e, fr, hh, ?_⟩
   have hval : ((cells.toList.drop off).take (encs encByte l).length) = l.map fun b => Value.int .u8 (b.toNat : Nat) := by
    rw [show (encs encByte l).length = l0 by rw [layByte.length, Nat.mul_one, hll]]
    apply List.ext_getElem?
    intro i
    rw [List.getElem?_take]
    split
    ·rename_i hi
     rw [List.getElem?_drop, Array.getElem?_toList, hat i hi]
     have h1 : zs.getD i 0 ∈ zs := by
      rw [List.getD_eq_getElem?_getD, List.getElem?_eq_getElem (by omega)]; exact List.getElem_mem _
     have h2 := hws _ h1
     have h3 : 0 ≤ zs.getD i 0 ∧ zs.getD i 0 ≤ 255 := by
      have : IntKind.u8.min = 0 ∧ IntKind.u8.max = 255 := by decide
      rw [Lit.wf, this.1, this.2, Bool.and_eq_true, decide_eq_true_eq, decide_eq_true_eq] at h2
      exact h2
     have h4 : (l.map fun b => Value.int .u8 (b.toNat : Nat))[i]? = some (.int .u8 (((UInt8.ofNat (zs.getD i 0).toNat).toNat : Nat) : Int)) := by
      simp only [l, List.getElem?_map]
      rw [List.getElem?_take, if_pos hi, List.getD_eq_getElem?_getD, List.getElem?_eq_getElem (by omega)]
      rfl
     rw [h4, UInt8.toNat_ofNat']
     congr 2
     omega
    ·rename_i hi
     rw [List.getElem?_eq_none (by simp only [List.length_map]; omega)]
   rw [hval]
   exact RL_byts l
end Go.Proofs.YtfncaghjfgnnhaaGreatDoor

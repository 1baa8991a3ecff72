/-
  Layouts of library functions at this program (printed by tools/lays.py).
  The library's Count, Join and Itoa as contracts of calls.
  Itoa's digits and Join's parts are the reference's.
  The evaluator of closed calls: deep, by fuel.
  sync.Once, its parts: the lock, the two calls that doSlow defers.
  sync.Once, not yet done, the lock free: the function is called, 'done' is stored.
  What is one's own is lent to a function that only reads it, or given away.
  Steps one behind the other; a contract's blocks, said in another way ahead of the call or behind it.
  Steps of the machine's memory one behind the other.
  sync.Once's Do as a contract: what the function does, and 'done'.
  Closed calls: results reckoned whole.
  A call whose blocks are not looked at any more.
  strings.NewReplacer and its Replace, as the program uses them.
-/
import Derived.Test.YtfncaghjfgnnhaaGreatDoorJxAf
import Derived.Shelf.LaysM
import Derived.Shelf.Strings.OnBuilder
import Derived.Shelf.Strconv.Itoa3
import Derived.Shelf.Strings.Count
import Derived.Test.YtfncaghjfgnnhaaGreatDoorRows
import Derived.Lib.Join
import Derived.Tactics
import Derived.Tactics2
import Derived.Defers
import Derived.Laws.Pointers
import Derived.Laws.LoneSync
import Derived.RegionTactic
import Derived.RegionCalls
import Derived.ChangeAlike
import Derived.Laws.NewBlocks
namespace Go.Proofs
open Go.Shelf

def Tryz.lays138_ren : Go.Shelf.Ren := ⟨fun | 138 => 215 | 195 => 216 | 218 => 217 | 143 => 218 | 219 => 219 | 217 => 108 | 225 => 220 | 224 => 221 | 267 => 222 | 266 => 122 | 314 => 223 | n => n, fun | 9 => 9 | 3 => 3 | 4 => 4 | 5 => 5 | 0 => 0 | 46 => 122 | 146 => 238 | 51 => 104 | n => n, fun | 1 => 1 | n => n⟩
set_option maxRecDepth 100000 in
theorem Tryz.lays138 : Go.Proofs.Lays.n138 Tryz.prog Tryz.lays138_ren where
  mixed := by kernel_rfl
  f138 := Tryz.func215.trans (congrArg some (by kernel_rfl))
  f143 := Tryz.func218.trans (congrArg some (by kernel_rfl))
  f195 := Tryz.func216.trans (congrArg some (by kernel_rfl))
  f217 := Tryz.func108.trans (congrArg some (by kernel_rfl))
  f218 := Tryz.func217.trans (congrArg some (by kernel_rfl))
  f219 := Tryz.func219.trans (congrArg some (by kernel_rfl))
  f224 := Tryz.func221.trans (congrArg some (by kernel_rfl))
  f225 := Tryz.func220.trans (congrArg some (by kernel_rfl))
  f266 := Tryz.func122.trans (congrArg some (by kernel_rfl))
  f267 := Tryz.func222.trans (congrArg some (by kernel_rfl))
  f314 := Tryz.func223.trans (congrArg some (by kernel_rfl))
  t0 := Tryz.underlying0
  a0 := Tryz.isAgg0
  z0 := Tryz.sizeOf0
  v0 := Tryz.zeroValue0
  t3 := Tryz.underlying3
  a3 := Tryz.isAgg3
  z3 := Tryz.sizeOf3
  v3 := Tryz.zeroValue3
  t4 := Tryz.underlying4
  a4 := Tryz.isAgg4
  z4 := Tryz.sizeOf4
  v4 := Tryz.zeroValue4
  t5 := Tryz.underlying5
  a5 := Tryz.isAgg5
  z5 := Tryz.sizeOf5
  v5 := Tryz.zeroValue5
  t9 := Tryz.underlying9
  a9 := Tryz.isAgg9
  z9 := Tryz.sizeOf9
  v9 := Tryz.zeroValue9
  t46 := Tryz.underlying122
  a46 := Tryz.isAgg122
  z46 := Tryz.sizeOf122
  v46 := Tryz.zeroValue122
  t51 := Tryz.underlying104
  a51 := Tryz.isAgg104
  z51 := Tryz.sizeOf104
  v51 := Tryz.zeroValue104
  t146 := Tryz.underlying238
  a146 := Tryz.isAgg238
  z146 := Tryz.sizeOf238
  v146 := Tryz.zeroValue238
  g1 := by kernel_rfl

def Tryz.lays156_ren : Go.Shelf.Ren := ⟨fun | 156 => 55 | 165 => 84 | 166 => 85 | 169 => 86 | 240 => 105 | 241 => 106 | 276 => 120 | 277 => 121 | n => n, fun | 31 => 22 | 9 => 9 | 3 => 3 | 4 => 4 | 0 => 0 | 20 => 20 | 72 => 86 | 76 => 90 | 70 => 84 | 37 => 31 | 75 => 89 | 127 => 119 | 164 => 132 | 5 => 5 | 80 => 51 | n => n, fun | n => n⟩
set_option maxRecDepth 100000 in
theorem Tryz.lays156 : Go.Proofs.Lays.n156 Tryz.prog Tryz.lays156_ren where
  mixed := by kernel_rfl
  f156 := Tryz.func55.trans (congrArg some (by kernel_rfl))
  f165 := Tryz.func84.trans (congrArg some (by kernel_rfl))
  f166 := Tryz.func85.trans (congrArg some (by kernel_rfl))
  f169 := Tryz.func86.trans (congrArg some (by kernel_rfl))
  f240 := Tryz.func105.trans (congrArg some (by kernel_rfl))
  f241 := Tryz.func106.trans (congrArg some (by kernel_rfl))
  f276 := Tryz.func120.trans (congrArg some (by kernel_rfl))
  f277 := Tryz.func121.trans (congrArg some (by kernel_rfl))
  t0 := Tryz.underlying0
  a0 := Tryz.isAgg0
  z0 := Tryz.sizeOf0
  v0 := Tryz.zeroValue0
  t3 := Tryz.underlying3
  a3 := Tryz.isAgg3
  z3 := Tryz.sizeOf3
  v3 := Tryz.zeroValue3
  t4 := Tryz.underlying4
  a4 := Tryz.isAgg4
  z4 := Tryz.sizeOf4
  v4 := Tryz.zeroValue4
  t9 := Tryz.underlying9
  a9 := Tryz.isAgg9
  z9 := Tryz.sizeOf9
  v9 := Tryz.zeroValue9
  t20 := Tryz.underlying20
  a20 := Tryz.isAgg20
  z20 := Tryz.sizeOf20
  v20 := Tryz.zeroValue20
  t31 := Tryz.underlying22
  a31 := Tryz.isAgg22
  z31 := Tryz.sizeOf22
  v31 := Tryz.zeroValue22
  t37 := Tryz.underlying31
  a37 := Tryz.isAgg31
  z37 := Tryz.sizeOf31
  v37 := Tryz.zeroValue31
  t70 := Tryz.underlying84
  a70 := Tryz.isAgg84
  z70 := Tryz.sizeOf84
  v70 := Tryz.zeroValue84
  t72 := Tryz.underlying86
  a72 := Tryz.isAgg86
  z72 := Tryz.sizeOf86
  v72 := Tryz.zeroValue86
  t75 := Tryz.underlying89
  a75 := Tryz.isAgg89
  z75 := Tryz.sizeOf89
  v75 := Tryz.zeroValue89
  t76 := Tryz.underlying90
  a76 := Tryz.isAgg90
  z76 := Tryz.sizeOf90
  v76 := Tryz.zeroValue90
  t127 := Tryz.underlying119
  a127 := Tryz.isAgg119
  z127 := Tryz.sizeOf119
  v127 := Tryz.zeroValue119
  t164 := Tryz.underlying132
  a164 := Tryz.isAgg132
  z164 := Tryz.sizeOf132
  v164 := Tryz.zeroValue132

def Tryz.extra156_ren : Go.Shelf.Ren := ⟨fun | 156 => 55 | 165 => 84 | 166 => 85 | 169 => 86 | 240 => 105 | 241 => 106 | 276 => 120 | 277 => 121 | n => n, fun | 31 => 22 | 9 => 9 | 3 => 3 | 4 => 4 | 0 => 0 | 20 => 20 | 72 => 86 | 76 => 90 | 70 => 84 | 37 => 31 | 75 => 89 | 127 => 119 | 164 => 132 | 5 => 5 | 80 => 51 | n => n, fun | n => n⟩
set_option maxRecDepth 100000 in
theorem Tryz.extra156 : Go.Proofs.Builder.Extra Tryz.prog Tryz.lays156_ren where
  sizeBuilder := by kernel_rfl
  liesBuilder := by kernel_rfl
  t5 := Tryz.underlying5
  a5 := Tryz.isAgg5
  z5 := Tryz.sizeOf5
  v5 := Tryz.zeroValue5
  infoByte := by kernel_rfl
  cellsByte := by kernel_rfl
  sizeByte := by kernel_rfl
  neB5 := by decide

def Tryz.lays171_ren : Go.Shelf.Ren := ⟨fun | 171 => 54 | 243 => 83 | 246 => 104 | 283 => 116 | 284 => 117 | 285 => 118 | 286 => 119 | 129 => 133 | 317 => 143 | 318 => 144 | 319 => 145 | 320 => 146 | 337 => 164 | 338 => 165 | n => n, fun | 3 => 3 | 9 => 9 | 2 => 2 | 4 => 4 | 171 => 126 | 0 => 0 | 53 => 127 | 37 => 31 | 5 => 5 | 173 => 130 | 212 => 159 | 51 => 104 | 20 => 20 | 213 => 160 | 46 => 122 | 232 => 203 | 233 => 204 | n => n, fun | 17 => 0 | 18 => 4 | 19 => 5 | n => n⟩
set_option maxRecDepth 100000 in
theorem Tryz.lays171 : Go.Proofs.LaysM.n171 Tryz.prog Tryz.lays171_ren where
  mixed := by kernel_rfl
  f129 := Tryz.func133.trans (congrArg some (by kernel_rfl))
  f171 := Tryz.func54.trans (congrArg some (by kernel_rfl))
  f243 := Tryz.func83.trans (congrArg some (by kernel_rfl))
  f246 := Tryz.func104.trans (congrArg some (by kernel_rfl))
  f283 := Tryz.func116.trans (congrArg some (by kernel_rfl))
  f284 := Tryz.func117.trans (congrArg some (by kernel_rfl))
  f285 := Tryz.func118.trans (congrArg some (by kernel_rfl))
  f286 := Tryz.func119.trans (congrArg some (by kernel_rfl))
  f317 := Tryz.func143.trans (congrArg some (by kernel_rfl))
  f318 := Tryz.func144.trans (congrArg some (by kernel_rfl))
  f319 := Tryz.func145.trans (congrArg some (by kernel_rfl))
  f320 := Tryz.func146.trans (congrArg some (by kernel_rfl))
  f337 := Tryz.func164.trans (congrArg some (by kernel_rfl))
  f338 := Tryz.func165.trans (congrArg some (by kernel_rfl))
  t0 := Tryz.underlying0
  a0 := Tryz.isAgg0
  z0 := Tryz.sizeOf0
  v0 := Tryz.zeroValue0
  t2 := Tryz.underlying2
  a2 := Tryz.isAgg2
  z2 := Tryz.sizeOf2
  v2 := Tryz.zeroValue2
  t3 := Tryz.underlying3
  a3 := Tryz.isAgg3
  z3 := Tryz.sizeOf3
  v3 := Tryz.zeroValue3
  t4 := Tryz.underlying4
  a4 := Tryz.isAgg4
  z4 := Tryz.sizeOf4
  v4 := Tryz.zeroValue4
  t5 := Tryz.underlying5
  a5 := Tryz.isAgg5
  z5 := Tryz.sizeOf5
  v5 := Tryz.zeroValue5
  t9 := Tryz.underlying9
  a9 := Tryz.isAgg9
  z9 := Tryz.sizeOf9
  v9 := Tryz.zeroValue9
  t20 := Tryz.underlying20
  a20 := Tryz.isAgg20
  z20 := Tryz.sizeOf20
  v20 := Tryz.zeroValue20
  t37 := Tryz.underlying31
  a37 := Tryz.isAgg31
  z37 := Tryz.sizeOf31
  v37 := Tryz.zeroValue31
  t46 := Tryz.underlying122
  a46 := Tryz.isAgg122
  z46 := Tryz.sizeOf122
  v46 := Tryz.zeroValue122
  t51 := Tryz.underlying104
  a51 := Tryz.isAgg104
  z51 := Tryz.sizeOf104
  v51 := Tryz.zeroValue104
  t53 := Tryz.underlying127
  a53 := Tryz.isAgg127
  z53 := Tryz.sizeOf127
  v53 := Tryz.zeroValue127
  t171 := Tryz.underlying126
  a171 := Tryz.isAgg126
  z171 := Tryz.sizeOf126
  v171 := Tryz.zeroValue126
  t173 := Tryz.underlying130
  a173 := Tryz.isAgg130
  z173 := Tryz.sizeOf130
  v173 := Tryz.zeroValue130
  t212 := Tryz.underlying159
  a212 := Tryz.isAgg159
  z212 := Tryz.sizeOf159
  v212 := Tryz.zeroValue159
  t213 := Tryz.underlying160
  a213 := Tryz.isAgg160
  z213 := Tryz.sizeOf160
  t232 := Tryz.underlying203
  a232 := Tryz.isAgg203
  z232 := Tryz.sizeOf203
  v232 := Tryz.zeroValue203
  t233 := Tryz.underlying204
  a233 := Tryz.isAgg204
  z233 := Tryz.sizeOf204
  v233 := Tryz.zeroValue204
  g17 := by kernel_rfl
  g18 := by kernel_rfl
  g19 := by kernel_rfl
  i0 := by kernel_rfl
  i2 := by kernel_rfl
  i3 := by kernel_rfl
  i4 := by kernel_rfl
  i5 := by kernel_rfl
  i9 := by kernel_rfl
  i20 := by kernel_rfl
  i37 := by kernel_rfl
  i46 := by kernel_rfl
  i51 := by kernel_rfl
  i53 := by kernel_rfl
  i171 := by kernel_rfl
  i173 := by kernel_rfl
  i212 := by kernel_rfl
  i232 := by kernel_rfl
  i233 := by kernel_rfl
  m17 := by kernel_rfl
  m18 := by kernel_rfl
  m19 := by kernel_rfl

end Go.Proofs

namespace Go.Proofs.YtfncaghjfgnnhaaGreatDoor
open Go.RowKit
set_option maxRecDepth 100000

theorem grown_of_below {w w' : World} (h : Below w.heap.size w w') : w.grownBy w' none := ⟨h.os, h.tape, h.output, h.size, fun k hk _ => h.block k hk⟩

theorem count_ok (t : List UInt8) (c : UInt8) : FnOK Tryz.prog 215 [.str t, .str [c]] [] ⟨.int .i64 (t.count c : Nat), [], []⟩ := by
  refine FnOK.ofCalls fun I w vals hv hI => ?_
  simp only [V.RL, V.R] at hv
  obtain ⟨u, us, h1, rfl, u2, us2, rfl, rfl, rfl⟩ := hv
  obtain rfl : vals = #[.string ⟨t.toArray⟩, .string ⟨#[c]⟩] := by cases vals; simp_all
  refine (Any.strings_Count_one Tryz.lays138 ⟨t.toArray⟩ c w).mono ?_
  rintro e w' ⟨he, rfl⟩
  refine ⟨_, he, ?_, ⟨rfl, rfl, rfl, Nat.le_refl _, fun _ _ _ => rfl⟩⟩
  simp only [V.R, Lib.countByte]

theorem join_ok (L : List (List UInt8)) (sep : List UInt8) (hn : L.length ≤ 140737488355328) (hl : (Lib.join L sep).length ≤ 140737488355328) :
    FnOK Tryz.prog 55 [.dsl L.length false (encs encStr L), .str sep] [] ⟨.str (Lib.join L sep), [], []⟩ := by
  refine FnOK.ofCalls fun I w vals hv hI => ?_
  simp only [V.RL, V.R] at hv
  obtain ⟨u, us, h1, ⟨a, cap, rfl, hcap, _, ha, hc⟩, u2, us2, rfl, rfl, rfl⟩ := hv
  obtain rfl : vals = #[.slice a L.length cap, .string ⟨sep.toArray⟩] := by cases vals; simp_all
  have fin : ∀ (e : Ending) (w' : World), (e = .returned (.string ⟨(Lib.join L sep).toArray⟩) ∧ Below w.heap.size w w') → ∃ val, e = .returned val ∧ V.R Tryz.prog I noMu w' (.str (Lib.join L sep)) val ∧ w.grownBy w' none := by
    rintro e w' ⟨he, hb⟩
    exact ⟨_, he, by simp only [V.R], grown_of_below hb⟩
  have hc' : L = [] ∨ ∃ g off, a = some ⟨g, off, none⟩ ∧ I g ∧ ∃ cells e fr, w.heap[g]? = some (.cells cells e fr) ∧ V.RL Tryz.prog I noMu w (encs encStr L) ((cells.toList.drop off).take (encs encStr L).length) := by
    rcases hc with hc | hc | hc
    · exact .inl (layStr.inj L [] hc)
    · exact .inl (List.eq_nil_of_length_eq_zero hc)
    · exact .inr hc
  rcases hc' with rfl | ⟨g, off, rfl, hg, cells, e, fr, hh, hcs⟩
  · subst_vars
    refine (Any.strings_Join_none Tryz.lays156 Tryz.extra156 a cap ⟨sep.toArray⟩ w).mono ?_
    rintro e w' ⟨he, rfl⟩
    exact fin e _ ⟨he, Below.refl _ _⟩
  · have hlen : (encs encStr L).length = L.length := by rw [layStr.length, Nat.mul_one]
    have hcell : ∀ (j : Nat) x, (L.map fun s => (⟨s.toArray⟩ : ByteArray))[j]? = some x → w.cell? ⟨g, off + j, none⟩ = some (.string x) := by
      intro j x hx
      rw [List.getElem?_map] at hx
      obtain ⟨s, hs, rfl⟩ := Option.map_eq_some_iff.1 hx
      have hj : j < L.length := (List.getElem?_eq_some_iff.1 hs).1
      have he : (encs encStr L)[j]? = some (.str s) := by
        have h2 := layStr.at L [] j 1 hj rfl
        rw [Nat.mul_one] at h2
        have h3 : ((encs encStr L).drop j)[0]? = some (.str (L.getD j [])) := by
          have := congrArg (·[0]?) h2
          simpa [encStr] using this
        rw [List.getElem?_drop, Nat.add_zero] at h3
        rw [h3, List.getD_eq_getElem?_getD, hs]; rfl
      obtain ⟨v, hv1, hv2⟩ := hcs.get he
      simp only [V.R] at hv2
      subst hv2
      rw [hlen, List.getElem?_take, if_pos hj, List.getElem?_drop, Array.getElem?_toList] at hv1
      simp only [World.cell?, hh]
      exact hv1
    have hmap : (L.map fun s => (⟨s.toArray⟩ : ByteArray)).map (·.data.toList) = L := by
      rw [List.map_map]
      conv => rhs; rw [← List.map_id L]
      rfl
    have := Any.strings_Join Tryz.lays156 Tryz.extra156 g off cap (L.map fun s => ⟨s.toArray⟩) ⟨sep.toArray⟩ w hcell (hI _ hg) (by simpa using hn) (by simpa using hcap) (by rw [hmap]; exact hl)
    rw [hmap, List.length_map] at this
    exact this.mono fin

theorem itoa_ok (n : Int) (h : -9223372036854775808 ≤ n ∧ n ≤ 9223372036854775807) : FnOK Tryz.prog 54 [.int .i64 n] [] ⟨.str (Lib.itoa n), [], []⟩ := by
  refine FnOK.ofCalls fun I w vals hv hI => ?_
  simp only [V.RL, V.R] at hv
  obtain ⟨u, us, h1, rfl, rfl⟩ := hv
  obtain rfl : vals = #[.int .i64 n] := by cases vals; simp_all
  have ht := (hI.laid ("internal/strconv.uint64pow10", .u64, Lib.pow10Tab) (by simp [tabs]) 0 (by kernel_rfl)).2
  refine (Any.strconv_Itoa Tryz.lays171 n h.1 h.2 w ht).mono ?_
  rintro e w' ⟨he, k, os, rfl⟩
  refine ⟨_, he, by simp only [V.R], ⟨rfl, rfl, rfl, ?_, fun j hj _ => ?_⟩⟩
  · show w.heap.size ≤ (w.heap ++ os).size
    rw [Array.size_append]; omega
  · show (w.heap ++ os)[j]? = w.heap[j]?
    rw [Array.getElem?_append, if_pos hj]

end Go.Proofs.YtfncaghjfgnnhaaGreatDoor

namespace Go.Proofs.YtfncaghjfgnnhaaGreatDoor
open Go.RowKit
set_option maxRecDepth 100000

theorem dgs_dec : ∀ (k u : Nat), u < 10 ^ (k + 1) → dgs (k + 1) (u : Int) = Lib.decDigits u
  | k, u, h => by
    rw [dgs, Lib.decDigits]
    by_cases hu : u < 10
    · rw [if_pos (by omega), dif_pos hu, show ((48 : Int) + (u : Int)).toNat = 48 + u by omega]
    · rw [if_neg (by omega), dif_neg hu]
      have q : (u : Int).tdiv 10 = ((u / 10 : Nat) : Int) := by rw [Int.tdiv_eq_ediv_of_nonneg (by omega)]; omega
      have r : (48 + (u : Int).tmod 10).toNat = 48 + u % 10 := by rw [Int.tmod_eq_emod_of_nonneg (by omega)]; omega
      rcases k with _ | k
      · simp at h; omega
      · rw [q, r, dgs_dec k (u / 10) (by rw [Nat.pow_succ] at h; omega)]
theorem itoa_dg (n : Int) (h : -9223372036854775808 < n ∧ n ≤ 9223372036854775807) : Lib.itoa n = dg n := by
  unfold Lib.itoa dg
  split
  · rw [show -n = (n.natAbs : Int) by omega, dgs_dec 18 _ (by omega)]
  · rw [← dgs_dec 18 n.toNat (by omega), Int.toNat_of_nonneg (by omega)]

def prt (o : Bool) (k : List UInt8) (j : J) : List UInt8 := (if o then quo k ++ [58] else []) ++ pj j
def prts (o : Bool) : List (List UInt8) → List J → List (List UInt8)
  | _, [] => []
  | ks, j :: js => prt o (ks.headD []) j :: prts o ks.tail js
theorem prts_len (o : Bool) : ∀ (its : List J) (ks : List (List UInt8)), (prts o ks its).length = its.length
  | [], ks => rfl
  | j :: js, ks => by rw [prts, List.length_cons, List.length_cons, prts_len o js]
theorem inter_cons (sep x : List UInt8) (xs : List (List UInt8)) : sep.intercalate (x :: xs) = x ++ xs.flatMap (sep ++ ·) := by
  induction xs generalizing x with
  | nil => simp [List.intercalate]
  | cons y ys ih =>
    have := ih y
    simp only [List.intercalate, List.intersperse, List.flatten_cons, List.flatMap_cons] at this ⊢
    rw [this, List.append_assoc]
theorem pjs_flat (o : Bool) : ∀ (its : List J) (ks : List (List UInt8)), pjs o false ks its = (prts o ks its).flatMap ([44] ++ ·)
  | [], ks => by simp [pjs, prts]
  | j :: js, ks => by
    rw [pjs, prts, List.flatMap_cons, pjs_flat o js]
    simp [prt]
theorem join_pjs (o : Bool) (its : List J) (ks : List (List UInt8)) : Lib.join (prts o ks its) [44] = pjs o true ks its := by
  cases its with
  | nil => simp [pjs, prts, Lib.join, List.intercalate]
  | cons j js =>
    rw [Lib.join, prts, inter_cons, pjs, pjs_flat]
    simp [prt]
theorem prts_step (o : Bool) (i : Nat) (ks : List (List UInt8)) (its : List J) (h : i < its.length) : prts o (ks.drop i) (its.drop i) = prt o (ks.getD i []) (its.getD i J.zero) :: prts o (ks.drop (i + 1)) (its.drop (i + 1)) := by
  rw [List.drop_eq_getElem_cons h, prts]
  have e1 : (ks.drop i).headD [] = ks.getD i [] := by
    rw [List.headD_eq_head?_getD, List.head?_drop, List.getD_eq_getElem?_getD]
  have e2 : its[i] = its.getD i J.zero := by rw [List.getD_eq_getElem?_getD, List.getElem?_eq_getElem h]; rfl
  rw [e1, e2, List.tail_drop]

end Go.Proofs.YtfncaghjfgnnhaaGreatDoor

namespace Go.Proofs.YtfncaghjfgnnhaaGreatDoor
open Go.RowKit

section
variable {β : Type}

def forceVs (l : List V) (k : List V → β) : β :=
  match l with
  | [] => k []
  | x :: xs => forceV x fun y => forceVs xs fun ys => k (y :: ys)
theorem forceVs_eq : ∀ (l : List V) (k : List V → β), forceVs l k = k l
  | [], _ => rfl
  | x :: xs, k => by unfold forceVs; rw [forceV_eq, forceVs_eq xs]
def forceH (hp : Hp) (k : Hp → β) : β :=
  match hp with
  | [] => k []
  | none :: t => forceH t fun t => k (none :: t)
  | some (cs, ty) :: t => forceVs cs fun cs => forceH t fun t => k (some (cs, ty) :: t)
theorem forceH_eq : ∀ (hp : Hp) (k : Hp → β), forceH hp k = k hp
  | [], _ => rfl
  | none :: t, k => by unfold forceH; rw [forceH_eq t]
  | some (cs, ty) :: t, k => by unfold forceH; rw [forceVs_eq, forceH_eq t]

def chg : Op → Bool
  | .alloc _ => true
  | .box _ _ => true
  | .buildSlice _ _ _ => true
  | .makeSlice _ _ _ => true
  | .store _ _ _ => true
  | .call _ => true
  | .convert _ _ _ => true
  | _ => false
def forceO (o : Op) (hp : Hp) (k : Hp → β) : β := match chg o with
  | true => forceH hp k
  | false => k hp
theorem forceO_eq (o : Op) (hp : Hp) (k : Hp → β) : forceO o hp k = k hp := by
  unfold forceO; split
  · exact forceH_eq _ _
  · rfl

noncomputable def traceC (P : Program) (callF : CallF) (ops : Array Oper) : List Oper → St → List Rec → (List Rec → St → Option β) → Option β
  | [], s, acc, k => k acc s
  | o :: rest, s, acc, k => match wantedV ops s.tm o with
    | some true => match evOp P callF (evalV s.tm) s.hp o.op with
      | some out => forceV out.v fun v => putK s.tm o.dst v fun tm => forceO o.op out.hp fun hp => traceC P callF ops rest ⟨tm, hp, forceW out.wr s.wr⟩ ((s, out.acc, out.wr) :: acc) k
      | none => none
    | some false => putK s.tm o.dst (.lit undef) fun tm => traceC P callF ops rest ⟨tm, s.hp, s.wr⟩ ((s, [], []) :: acc) k
    | none => none

def iterC (step : St → (Ex → St → Option β) → Option β) (k : Ex → St → Option β) : Nat → St → Option β
  | 0, _ => none
  | n + 1, s => step s fun ex s' => match ex with
    | .normal => iterC step k n s'
    | .exit i => k (.exit i) s'
    | .ret => k .ret s'

noncomputable def codeC (P : Program) (callF : CallF) (n : Nat) : Code → St → (Ex → St → Option β) → Option β
  | .skip, s, k => k .normal s
  | .region _ ops draw, s, k => traceC P callF ops ops.toList s [] fun l s2 => match draw with
    | false => k .normal s2
    | true => match drawOK ops l.reverse s2 with
      | true => k .normal s2
      | false => none
  | .seq x y, s, k => codeC P callF n x s fun ex s' => match ex with
    | .normal => codeC P callF n y s' k
    | .exit i => k (.exit i) s'
    | .ret => k .ret s'
  | .cond c x y, s, k => match evalV s.tm c with
    | .bool true => codeC P callF n x s k
    | .bool false => codeC P callF n y s k
    | _ => none
  | .block id body, s, k => codeC P callF n body s fun ex s' => k (outEx id ex) s'
  | .loop body, s, k => iterC (codeC P callF n body) k n s
  | .exit id, s, k => k (.exit id) s
  | .ret, s, k => k .ret s
  | _, _, _ => none
end

def gcC (P : Program) (m : Nat) (ids : List Nat) (v : V) (s : St) : Ret := ⟨frz P s.hp ids m 100 v, (normSt P m [] ids s).hp, (normSt P m [] ids s).wr⟩
def idsC (m : Nat) (frozen : Bool) (v : List V) (hp : Hp) : List Nat := match frozen with
  | true => List.range m
  | false => reach hp 100000 (V.refsL v ++ (hp.take m).flatMap fun (x : Option Blk) => match x with | some blk => V.refsL blk.1 | none => []) (List.range m)
noncomputable def fnC (P : Program) (callF : CallF) (n : Nat) (frozen : FuncId → Bool) : CallF := fun f vs hp =>
  match P.funcs[f]? with
  | some fn => match fn.body with
    | some c => codeC P callF n c ⟨Tm.start (vs.length + (fn.ntmps - vs.length)) vs, hp, []⟩ fun ex s => match ex with
      | .exit _ => none
      | _ => match evResultL P s.hp s.tm fn.results.toList with
        | some v => match permOK hp.length (idsC hp.length (frozen f) v s.hp) with
          | true => match gcC P hp.length (idsC hp.length (frozen f) v s.hp) (oneOf v) s with
            | ⟨v, h, w⟩ => forceV v fun v => forceH h fun h => some ⟨v, h, w⟩
          | false => none
        | none => none
    | none => none
  | none => none
noncomputable def deepC (P : Program) (ext : CallF) (n : Nat) (frozen : FuncId → Bool) : Nat → CallF
  | 0 => fun _ _ _ => none
  | d + 1 => fun f vs hp => match ext f vs hp with
    | some r => some r
    | none => fnC P (deepC P ext n frozen d) n frozen f vs hp

section
variable {P : Program} {callF : CallF} {β : Type}

theorem traceC_ok (hn : Named P) (hb : Bodied P callF) (hc : CallOK P callF) {ops : Array Oper} : ∀ {os : List Oper} {s : St} {acc : List Rec} {k : List Rec → St → Option β} {r : β}, traceC P callF ops os s acc k = some r →
    ∃ l s2, TraceR P ops os s l s2 ∧ k (l.reverse ++ acc) s2 = some r
  | [], s, acc, k, r, h => ⟨[], s, .nil s, by simpa [traceC] using h⟩
  | o :: rest, s, acc, k, r, h => by
    unfold traceC at h
    split at h
    · rename_i hw
      split at h
      · rename_i out ho
        simp only [forceV_eq, putK_eq, forceO_eq, forceW_eq] at h
        obtain ⟨l, s2, h1, h2⟩ := traceC_ok hn hb hc h
        refine ⟨_, s2, .cons (.inl ⟨hw, out, evOp_ok hn hb hc ho, rfl, rfl, rfl⟩) h1, ?_⟩
        simpa using h2
      · cases h
    · rename_i hw
      simp only [putK_eq] at h
      obtain ⟨l, s2, h1, h2⟩ := traceC_ok hn hb hc h
      refine ⟨_, s2, .cons (.inr ⟨hw, rfl, rfl, rfl⟩) h1, ?_⟩
      simpa using h2
    · cases h

theorem iterC_ok {m : Nat} {body : Code} {step : St → (Ex → St → Option β) → Option β} (hs : ∀ s k r, step s k = some r → ∃ ex s', SoundC P m body s ex s' ∧ k ex s' = some r) {k : Ex → St → Option β} {r : β} :
    ∀ (n : Nat) (s : St), iterC step k n s = some r → ∃ ex s', LoopTo P m body s ex s' ∧ k ex s' = some r
  | 0, s, h => by cases h
  | n + 1, s, h => by
    unfold iterC at h
    obtain ⟨ex, s', h1, h2⟩ := hs _ _ _ h
    cases ex with
    | normal =>
      obtain ⟨ex, s2, h3, h4⟩ := iterC_ok hs n s' h2
      exact ⟨ex, s2, .step h1 h3, h4⟩
    | exit i => exact ⟨_, _, .done h1 (by simp), h2⟩
    | ret => exact ⟨_, _, .done h1 (by simp), h2⟩

theorem codeC_ok (hm : P.follows .mixedOrders = true) (hn : Named P) (hb : Bodied P callF) (hc : CallOK P callF) {m n : Nat} : ∀ {c : Code} {s : St} {k : Ex → St → Option β} {r : β}, codeC P callF n c s k = some r → ∃ ex s', SoundC P m c s ex s' ∧ k ex s' = some r
  | .skip, s, k, r, h => ⟨.normal, s, .skip, h⟩
  | .region id ops draw, s, k, r, h => by
    unfold codeC at h
    obtain ⟨l, s2, h1, h2⟩ := traceC_ok hn hb hc h
    cases draw with
    | false => exact ⟨_, _, .region hm hn h1 (fun h => by cases h), h2⟩
    | true =>
      simp only [List.append_nil, List.reverse_reverse] at h2
      split at h2
      · rename_i hd; exact ⟨_, _, .region hm hn h1 (fun _ => hd), h2⟩
      · cases h2
  | .seq x y, s, k, r, h => by
    unfold codeC at h
    obtain ⟨ex, s1, h1, h2⟩ := codeC_ok hm hn hb hc (m := m) h
    cases ex with
    | normal =>
      obtain ⟨ex, s2, h3, h4⟩ := codeC_ok hm hn hb hc (m := m) h2
      exact ⟨_, _, .seq h1 h3, h4⟩
    | exit i => exact ⟨_, _, .seq_out h1 (by simp), h2⟩
    | ret => exact ⟨_, _, .seq_out h1 (by simp), h2⟩
  | .cond c x y, s, k, r, h => by
    unfold codeC at h
    split at h
    · rename_i hv
      obtain ⟨ex, s1, h1, h2⟩ := codeC_ok hm hn hb hc (m := m) h
      exact ⟨_, _, .cond (b := true) hv h1, h2⟩
    · rename_i hv
      obtain ⟨ex, s1, h1, h2⟩ := codeC_ok hm hn hb hc (m := m) h
      exact ⟨_, _, .cond (b := false) hv h1, h2⟩
    · cases h
  | .block id body, s, k, r, h => by
    unfold codeC at h
    obtain ⟨ex, s1, h1, h2⟩ := codeC_ok hm hn hb hc (m := m) h
    exact ⟨_, _, .block h1, h2⟩
  | .loop body, s, k, r, h => by
    unfold codeC at h
    obtain ⟨ex, s', h1, h2⟩ := iterC_ok (m := m) (body := body) (fun s k r h => codeC_ok hm hn hb hc (m := m) h) n s h
    exact ⟨_, _, .loopTo h1, h2⟩
  | .exit id, s, k, r, h => ⟨_, _, .exit, h⟩
  | .ret, s, k, r, h => ⟨_, _, .ret, h⟩
  | .rangeFunc _ _ _ _, _, _, _, h => by cases h
  | .scope _, _, _, _, h => by cases h
  | .label _, _, _, _, h => by cases h
  | .goto _, _, _, _, h => by cases h
  | .refuse _, _, _, _, h => by cases h

theorem gcC_tidy {hp0 : Hp} {s : St} {v : V} {ids : List Nat} (hp : permOK hp0.length ids = true) (C : SR hp0 s) : FnTidy hp0 (gcC P hp0.length ids v s) := by
  have C' := (norm_weakV (P := P) (keep := []) hp).st hp0 rfl C
  exact ⟨C'.len, fun b hb hn => C'.frame b hb hn, fun b hb => by simp only [gcC, normSt, List.mem_eraseDups, List.mem_filter, decide_eq_true_eq] at hb; exact hb.2, C'.alive⟩
theorem gcC_sound {hp0 : Hp} {I0 Im : Nat → Prop} {μ0 μ : Mu} {w0 w : World} {s : St} {a : Act} {v : V} {val : Value} {ids : List Nat} (hp : permOK hp0.length ids = true) (C : CI P hp0 I0 μ0 w0 s a w Im μ) (hv : V.R P Im μ w v val) :
    ∃ μr Ir, V.R P Ir μr w (gcC P hp0.length ids v s).v val ∧ Good P I0 Ir μ0 μr w0 w hp0 (gcC P hp0.length ids v s).hp (List.range hp0.length) (gcC P hp0.length ids v s).wr := by
  obtain ⟨Ir, μr, C', hV⟩ := (norm_weakV (keep := []) hp).run rfl C
  obtain ⟨μ2, hle, G⟩ := C'.good
  exact ⟨μ2, Ir, (hV _ _ hv).keep (.refl w (fun _ => False)) (.refl _) hle, G⟩
theorem fnOK_codeC {f : FuncId} {fn : Func} {c : Code} {vs : List V} {hp : Hp} {ex : Ex} {s : St} {v : List V} {r : Ret} (hfn : P.funcs[f]? = some fn) (hc : fn.body = some c)
    (h : SoundC P hp.length c ⟨Tm.start (vs.length + (fn.ntmps - vs.length)) vs, hp, []⟩ ex s) (hex : ex = .normal ∨ ex = .ret) (hres : evResultL P s.hp s.tm fn.results.toList = some v)
    {ids : List Nat} (hids : permOK hp.length ids = true) (hr : gcC P hp.length ids (oneOf v) s = r) : FnOK P f vs hp r := by
  subst hr
  exact fnOK_of hfn hc h hex hres (fun hst => gcC_tidy hids hst) fun C hR => gcC_sound hids C hR

theorem fnC_ok (hm : P.follows .mixedOrders = true) (hn : Named P) (hb : Bodied P callF) (hc : CallOK P callF) {n : Nat} {frozen : FuncId → Bool} : CallOK P (fnC P callF n frozen) := by
  intro f vs hp r h
  unfold fnC at h
  split at h
  · rename_i fn hfn
    split at h
    · rename_i c hbody
      obtain ⟨ex, s, h1, h2⟩ := codeC_ok hm hn hb hc (m := hp.length) h
      split at h2
      · cases h2
      · rename_i hex
        split at h2
        · rename_i v hv
          split at h2
          · rename_i hp1
            simp only [forceV_eq, forceH_eq, Option.some.injEq] at h2
            refine fnOK_codeC hfn hbody h1 ?_ hv hp1 ?_
            · cases ex with
              | normal => exact .inl rfl
              | ret => exact .inr rfl
              | exit i => exact absurd rfl (hex i)
            · rw [← h2]
          · cases h2
        · cases h2
    · cases h
  · cases h
theorem fnC_bodied {n : Nat} {frozen : FuncId → Bool} : Bodied P (fnC P callF n frozen) := by
  intro f vs hp r h
  unfold fnC at h
  split at h
  · rename_i fn hfn
    split at h
    · rename_i c hbody
      exact ⟨fn, hfn, by rw [hbody]; rfl⟩
    · cases h
  · cases h
theorem deepC_ok (hm : P.follows .mixedOrders = true) (hn : Named P) {ext : CallF} (hb : Bodied P ext) (hc : CallOK P ext) {n : Nat} {frozen : FuncId → Bool} : ∀ d, CallOK P (deepC P ext n frozen d) ∧ Bodied P (deepC P ext n frozen d)
  | 0 => ⟨fun _ _ _ _ h => (nomatch h), fun _ _ _ _ h => (nomatch h)⟩
  | d + 1 => by
    obtain ⟨h1, h2⟩ := deepC_ok hm hn hb hc (n := n) (frozen := frozen) d
    constructor
    · intro f vs hp r h
      unfold deepC at h
      split at h
      · rename_i he; cases h; exact hc _ _ _ _ he
      · exact fnC_ok hm hn h2 h1 _ _ _ _ h
    · intro f vs hp r h
      unfold deepC at h
      split at h
      · rename_i he; exact hb _ _ _ _ he
      · exact fnC_bodied _ _ _ _ h
end

end Go.Proofs.YtfncaghjfgnnhaaGreatDoor

namespace Go.Proofs.YtfncaghjfgnnhaaGreatDoor
open Go.RowKit
set_option maxRecDepth 100000

theorem disable (w : World) : (callFunc 170 #[]).run Tryz.prog w = .ok (.value (.tuple #[])) w := run_call_mark0 Tryz.func170 (by kernel_rfl) (by kernel_rfl) (by kernel_rfl) .disable (by kernel_rfl) w
theorem enable (w : World) : (callFunc 172 #[]).run Tryz.prog w = .ok (.value (.tuple #[])) w := run_call_mark0 Tryz.func172 (by kernel_rfl) (by kernel_rfl) (by kernel_rfl) .enable (by kernel_rfl) w
theorem acquire (a : Addr) (w : World) : (callFunc 173 #[.pointer (some a)]).run Tryz.prog w = .ok (.value (.tuple #[])) w := run_call_marked Tryz.func173 (by kernel_rfl) (by kernel_rfl) (by kernel_rfl) .acquire (by kernel_rfl) a w
theorem releaseMerge (a : Addr) (w : World) : (callFunc 175 #[.pointer (some a)]).run Tryz.prog w = .ok (.value (.tuple #[])) w := run_call_marked Tryz.func175 (by kernel_rfl) (by kernel_rfl) (by kernel_rfl) .releaseMerge (by kernel_rfl) a w

theorem store_deferred (a : Addr) (x : Value) (u : FrameMode) (w : World) (hc : w.cell? a = some x) (hz : w.frozen? a = false) :
    CallsD Tryz.prog 140 #[.pointer (some a), .bool true] u w fun e u' w' => u' = u ∧ (e = .returned (.tuple #[]) ∧ w' = w.drew.setCell a (.int .u32 1)) := by
  have hc' : w.drew.cell? a = some x := by go_simp
  have hz' : w.drew.frozen? a = false := by go_simp
  have hst := run_call_store (P := Tryz.prog) Tryz.func160 (by kernel_rfl) (by kernel_rfl) (by kernel_rfl) (by kernel_rfl) (k := .u32) (y := 1) hc' hz'
  go_enter_d Tryz.func140, Tryz.ntmps140
  go_wp2
  go_region_calls
  all_goals (go_end0; exact ⟨rfl, rfl⟩)

set_option maxRecDepth 100000 in
set_option maxHeartbeats 1600000 in
theorem unlock_deferred (a : Addr) (u : FrameMode) (w : World) (hc : w.cell? a = some (.int .i32 1)) (hz : w.frozen? a = false) :
    CallsD Tryz.prog 139 #[.pointer (some a)] u w fun e u' w' => u' = u ∧ (e = .returned (.tuple #[]) ∧ w' = w.setCell a (.int .i32 0)) := by
  have hd := disable
  have he := enable
  have hr := releaseMerge
  have hadd := run_call_add (P := Tryz.prog) Tryz.func176 (by kernel_rfl) (by kernel_rfl) (by kernel_rfl) .i32 (by kernel_rfl) (y := -1) (s := 0) hc hz (by simp [go_sem]; rfl)
  have hcv := run_convert_to_unsafe (P := Tryz.prog) (src := 193) (dst := 132) Tryz.underlying193 Tryz.underlying132 (by kernel_rfl) hc
  go_enter_d Tryz.func139, Tryz.ntmps139
  go_wp2
  go_end0
  go_wp2
  go_end0
  exact ⟨rfl, rfl⟩

set_option maxRecDepth 100000 in
set_option maxHeartbeats 1600000 in
theorem lock_free (a : Addr) (w : World) (hc : w.cell? a = some (.int .i32 0)) (hz : w.frozen? a = false) :
    Calls Tryz.prog 138 #[.pointer (some a)] w fun e w' => e = .returned (.tuple #[]) ∧ w' = w.setCell a (.int .i32 1) := by
  have hd := disable
  have he := enable
  have ha := acquire
  have hcas := run_call_cas_hit (P := Tryz.prog) Tryz.func171 (by kernel_rfl) (by kernel_rfl) (by kernel_rfl) .i32 (by kernel_rfl) (y := 1) hc hz
  have hc' : (w.setCell a (.int .i32 1)).cell? a = some (.int .i32 1) := World.cell?_setCell_same w a _ hc
  have hcv := run_convert_to_unsafe (P := Tryz.prog) (src := 193) (dst := 132) Tryz.underlying193 Tryz.underlying132 (by kernel_rfl) hc'
  go_enter Tryz.func138, Tryz.ntmps138
  go_wp2
  first | go_end0 | (simp only [Exit.inBlock, Exit.then]; refine bodyPost_ret (results_none rfl _ _ _) rfl ?_) | refine bodyPost_ret (results_none rfl _ _ _) rfl ?_
  go_wp2
  go_end0
  exact ⟨rfl, rfl⟩

end Go.Proofs.YtfncaghjfgnnhaaGreatDoor

namespace Go.Proofs.YtfncaghjfgnnhaaGreatDoor
open Go.RowKit
set_option maxRecDepth 100000

abbrev fBuildOnce : Nat := 103
structure Held (b off : Nat) (w : World) : Prop where
  h0 : w.cell? ⟨b, off, none⟩ = some (.int .u32 0)
  h1 : w.cell? ⟨b, off + 1, none⟩ = some (.int .i32 1)
  f0 : w.frozen? ⟨b, off, none⟩ = false
  f1 : w.frozen? ⟨b, off + 1, none⟩ = false

set_option maxRecDepth 100000 in
set_option maxHeartbeats 1600000 in
theorem slow_any (b off : Nat) (recv : Value) (R : World → Prop) (w : World)
    (h0 : w.cell? ⟨b, off, none⟩ = some (.int .u32 0)) (h1 : w.cell? ⟨b, off + 1, none⟩ = some (.int .i32 0))
    (f1 : w.frozen? ⟨b, off + 1, none⟩ = false)
    (hf : Calls Tryz.prog 103 #[recv] (w.setCell ⟨b, off + 1, none⟩ (.int .i32 1)) fun e w' => e = .returned (.tuple #[]) ∧ R w') (hR : ∀ w', R w' → Held b off w') :
    Calls Tryz.prog 114 #[.pointer (some ⟨b, off, none⟩), .func (.func 103) #[recv] #[]] w fun e w' => e = .returned (.tuple #[]) ∧
      ∃ w2, R w2 ∧ w' = (w2.drew.setCell ⟨b, off, none⟩ (.int .u32 1)).setCell ⟨b, off + 1, none⟩ (.int .i32 0) := by
  have hl := run_call_load (P := Tryz.prog) Tryz.func137 (by kernel_rfl) (by kernel_rfl) (by kernel_rfl) .u32 (by kernel_rfl) (w := w.setCell ⟨b, off + 1, none⟩ (.int .i32 1)) (a := ⟨b, off, none⟩) (x := 0) ((World.cell?_setCell_other _ ⟨b, off + 1, none⟩ ⟨b, off, none⟩ _ (by simp)).trans h0)
  have hnot : ∀ (x : Bool) (w : World), (Op.unary .not (.bool x)).run Tryz.prog w = .ok (.bool (!x)) w := fun _ _ => rfl
  go_enter_defers Tryz.func114, Tryz.ntmps114
  go_wp2_with (first
    | (go_at_call 138; refine (lock_free ⟨b, off + 1, none⟩ _ (by go_simp) (by go_simp)).mono ?_; rintro e w' ⟨rfl, rfl⟩)
    | (go_at_call 113; go_in)
    | (go_at_call 103; refine hf.mono ?_; rintro e w' ⟨rfl, hr⟩))
  have H := hR _ hr
  refine leaves_cons (f := 140) (args := #[.pointer (some ⟨b, off, none⟩), .bool true]) (by simp) (by simp [go_sem]) ?_
  refine (store_deferred ⟨b, off, none⟩ (.int .u32 0) .returning _ H.h0 H.f0).mono ?_
  rintro e u' w'' ⟨rfl, rfl, rfl⟩
  refine leaves_cons (f := 139) (args := #[.pointer (some ⟨b, off + 1, none⟩)]) (by simp [settle]) (by simp [go_sem]) ?_
  refine (unlock_deferred ⟨b, off + 1, none⟩ _ _ ?_ (by simp [H.f1])).mono ?_
  · refine (World.cell?_setCell_other _ ⟨b, off, none⟩ ⟨b, off + 1, none⟩ _ (by simp)).trans ?_
    rw [World.cell?_drew]
    exact H.h1
  rintro e u' w'' ⟨rfl, rfl, rfl⟩
  simp [Leaves, settle, results, Tryz.results114]
  exact ⟨_, hr, rfl⟩

set_option maxRecDepth 100000 in
set_option maxHeartbeats 1600000 in
theorem do_first (b off : Nat) (recv : Value) (R : World → Prop) (w : World)
    (h0 : w.cell? ⟨b, off, none⟩ = some (.int .u32 0)) (h1 : w.cell? ⟨b, off + 1, none⟩ = some (.int .i32 0))
    (f1 : w.frozen? ⟨b, off + 1, none⟩ = false)
    (hf : Calls Tryz.prog 103 #[recv] (w.setCell ⟨b, off + 1, none⟩ (.int .i32 1)) fun e w' => e = .returned (.tuple #[]) ∧ R w') (hR : ∀ w', R w' → Held b off w') :
    Calls Tryz.prog 102 #[.pointer (some ⟨b, off, none⟩), .func (.func 103) #[recv] #[]] w fun e w' => e = .returned (.tuple #[]) ∧
      ∃ w2, R w2 ∧ w' = (w2.drew.setCell ⟨b, off, none⟩ (.int .u32 1)).setCell ⟨b, off + 1, none⟩ (.int .i32 0) := by
  have hl := run_call_load (P := Tryz.prog) Tryz.func137 (by kernel_rfl) (by kernel_rfl) (by kernel_rfl) .u32 (by kernel_rfl) h0
  have hnot : ∀ (x : Bool) (w : World), (Op.unary .not (.bool x)).run Tryz.prog w = .ok (.bool (!x)) w := fun _ _ => rfl
  go_enter Tryz.func102, Tryz.ntmps102
  go_wp2_with (first
    | (go_at_call 114; refine (slow_any b off recv R _ h0 h1 f1 hf hR).mono ?_; rintro e w' ⟨rfl, hr⟩)
    | (go_at_call 113; go_in))
  go_end0
  exact ⟨rfl, hr⟩

end Go.Proofs.YtfncaghjfgnnhaaGreatDoor

namespace Go.Proofs.YtfncaghjfgnnhaaGreatDoor
open Go.RowKit
set_option maxRecDepth 100000

def lnd (P : Program) (hp : Hp) : Nat → V → V
  | 0, _ => .junk
  | n + 1, v => match v with
    | .sl b off k full => match hp[b]? with
      | some (some blk) => match hasSeal blk.1 with
        | true => if Nat.beq off 0 then .dsl k false (frzSeg (lnd P hp n) blk.1) else .junk
        | false => match szOf P blk.2 with
          | some s => if ((blk.1.drop off).take (k * s)).length = k * s then .dsl k false (((blk.1.drop off).take (k * s)).map (lnd P hp n)) else .junk
          | none => .junk
      | _ => .junk
    | .ptr b off => match hp[b]? with
      | some (some blk) => match hasSeal blk.1 with
        | true => .junk
        | false => .dptr ((blk.1.drop off).map (lnd P hp n))
      | _ => .junk
    | .agg cs => .agg (cs.map (lnd P hp n))
    | .tup cs => .tup (cs.map (lnd P hp n))
    | .fn f cs => .fn f (cs.map (lnd P hp n))
    | .box f cs => .box f (cs.map (lnd P hp n))
    | .dsl k _ cs => .dsl k false cs
    | .osl _ k o cs => .dsl k false (fzS o cs)
    | .eptr _ _ _ => .junk
    | v => v

mutual
def V.bare : V → Bool
  | .int _ _ => true
  | .bool _ => true
  | .str _ => true
  | .nilp => true
  | .nilf => true
  | .lit _ => true
  | .junk => true
  | .dsl _ _ [] => true
  | .dsl 0 _ _ => true
  | .agg cs => V.bareL cs
  | .tup cs => V.bareL cs
  | _ => false
def V.bareL : List V → Bool
  | [] => true
  | c :: cs => V.bare c && V.bareL cs
end

section
variable {P : Program} {I I2 : Nat → Prop} {μ : Mu} {w : World} {hp : Hp}

theorem lnd_R (hsub : Sub I I2) (hh : ∀ b blk, hp[b]? = some (some blk) → Holds P I μ w b blk ∧ ∀ g, μ.own b g → I2 g) : ∀ (n : Nat) (c : V) (u : Value), V.R P I μ w c u → V.R P I2 noMu w (lnd P hp n c) u := by
  intro n
  induction n with
  | zero => intro c u _; simp [lnd, V.R]
  | succ n ih =>
    have ihL : ∀ (cs : List V) (us : List Value), V.RL P I μ w cs us → V.RL P I2 noMu w (cs.map (lnd P hp n)) us := by
      intro cs
      induction cs with
      | nil => intro us h; simpa [V.RL] using h
      | cons c cs ihc =>
        intro us h
        simp only [V.RL] at h
        obtain ⟨u, us', rfl, h1, h2⟩ := h
        simp only [List.map_cons, V.RL]
        exact ⟨u, us', rfl, ih c u h1, ihc us' h2⟩
    have ihO : ∀ (c : V) (F : List Nat) (u : Value), (∀ k ∈ F, I2 k) → OX P I μ w F c u → V.R P I2 noMu w (lnd P hp n c) u := by
      intro c F u hF h
      cases hc : c.isO with
      | false => exact ih c u (h.plain hc).2
      | true =>
        unfold OX at h
        rw [hc] at h
        cases n with
        | zero => simp [lnd, V.R]
        | succ n =>
          have := fz_sound hsub c F u hF h
          cases c <;> first | (simp [V.isO] at hc; done) | (rw [fz_osl] at this; exact this)
    have ihOL : ∀ (cs : List V) (F : List Nat) (us : List Value), (∀ k ∈ F, I2 k) → OXL P I μ w F cs us → V.RL P I2 noMu w (cs.map (lnd P hp n)) us := by
      intro cs
      induction cs with
      | nil => intro F us _ h; obtain ⟨_, rfl⟩ := h; simp [V.RL]
      | cons c cs ihc =>
        intro F us hF h
        obtain ⟨u, us', F1, F2, rfl, rfl, h1, h2⟩ := h
        simp only [List.map_cons, V.RL]
        exact ⟨u, us', rfl, ihO c F1 u (fun k hk => hF k (by simp [hk])) h1, ihc F2 us' (fun k hk => hF k (by simp [hk])) h2⟩
    intro c u h
    unfold lnd
    split
    · rename_i b off k full
      split
      · rename_i blk hb
        obtain ⟨hH, hI2⟩ := hh b blk hb
        split
        · rename_i hs0
          split
          · rename_i hoff
            have hoff' : off = 0 := by simpa using hoff
            subst hoff'
            simp only [V.R] at h ⊢
            rcases h with ⟨g, cap, e, N, i, hg, rfl, h1, h2, h3, hsh, _⟩ | ⟨_, rfl, a', rfl, ha'⟩
            · obtain ⟨cs, fr, _, hw, _, ⟨h4, h5⟩, _⟩ := hH.realS hg hsh
              have h6 := frzSeg_sound (f := lnd P hp n) ihO hsub (fun k hk => hI2 k (.inr hk)) h5
              have h7 := h6.length
              refine ⟨some ⟨g, 0, none⟩, cap, rfl, h1, by simp, .inr ⟨_, _, rfl⟩, .inr <| .inr ⟨g, 0, rfl, hI2 g (.inl hg), cs, _, fr, hw, ?_⟩⟩
              rw [List.drop_zero]
              rw [List.length_take, Nat.min_eq_left (by simpa using h4)] at h7
              rw [← h7]
              exact h6
            · exact ⟨a', 0, rfl, Nat.le_refl _, by simp, ha'.imp (fun h => ⟨h, rfl⟩) id, .inr (.inl rfl)⟩
          · simp [V.R]
        · rename_i hs0
          have hfl := flat_noSeal hs0
          split
          · rename_i sz hsz
            split
            · rename_i hl
              simp only [V.R] at h ⊢
              rcases h with ⟨g, cap, e, N, i, hg, rfl, h1, h2, h3, hsh, _⟩ | ⟨_, rfl, a', rfl, ha'⟩
              · obtain ⟨cs, fr, _, hw, _, ⟨h4, h5⟩, _⟩ := hH.realS hg hsh
                have h5 := h5.toXL
                rw [hfl] at h4 h5
                refine ⟨some ⟨g, off, none⟩, cap, rfl, h1, by simp, .inr ⟨_, _, rfl⟩, .inr <| .inr ⟨g, off, rfl, hI2 g (.inl hg), cs, _, fr, hw, ?_⟩⟩
                obtain ⟨F1, F2, hFe, _, h6⟩ := h5.split off
                obtain ⟨F3, F4, hFe2, h6, _⟩ := h6.split (k * sz)
                rw [List.length_map, hl]
                have e1 : (cs.toList.drop off).take (k * sz) = ((cs.toList.take blk.1.length).drop off).take (k * sz) := by
                  simp only [List.length_take, List.length_drop] at hl
                  rw [List.drop_take, List.take_take, Nat.min_eq_left (by omega)]
                rw [e1]
                exact ihOL _ F3 _ (fun k hk => hI2 k (.inr (by rw [hFe, hFe2]; simp [hk]))) h6
              · exact ⟨a', 0, rfl, Nat.le_refl _, by simp, ha'.imp (fun h => ⟨h, rfl⟩) id, .inr (.inl rfl)⟩
            · simp [V.R]
          · simp [V.R]
      · simp [V.R]
    · rename_i b off
      split
      · rename_i blk hb
        obtain ⟨hH, hI2⟩ := hh b blk hb
        split
        · simp [V.R]
        · rename_i hs0
          have hfl := flat_noSeal hs0
          simp only [V.R] at h ⊢
          obtain ⟨g, hg, rfl⟩ := h
          obtain ⟨cs, fr, _, hw, _, ⟨h4, h5⟩, _⟩ := hH.realN (by rw [hs0]; simp) hg
          have h5 := h5.toXL
          rw [hfl] at h4 h5
          refine ⟨g, off, rfl, .inr ⟨hI2 g (.inl hg), cs, _, fr, hw, ?_⟩⟩
          obtain ⟨F1, F2, hFe, _, h6⟩ := h5.split off
          have h7 := ihOL _ F2 _ (fun k hk => hI2 k (.inr (by rw [hFe]; simp [hk]))) h6
          have e1 : (cs.toList.drop off).take (blk.1.drop off).length = (cs.toList.take blk.1.length).drop off := by
            rw [List.length_drop, List.drop_take]
          rw [List.length_map, e1]
          exact h7
      · simp [V.R]
    · simp only [V.R] at h ⊢; obtain ⟨vs, h1, h2⟩ := h; exact ⟨vs, h1, ihL _ _ h2⟩
    · simp only [V.R] at h ⊢; obtain ⟨vs, h1, h2⟩ := h; exact ⟨vs, h1, ihL _ _ h2⟩
    · simp only [V.R] at h ⊢; obtain ⟨vs, h1, h2⟩ := h; exact ⟨vs, h1, ihL _ _ h2⟩
    · simp only [V.R] at h ⊢; obtain ⟨vs, h1, h2⟩ := h; exact ⟨vs, h1, ihL _ _ h2⟩
    · simp only [V.R] at h ⊢
      obtain ⟨a, cap, h1, h2, _, h4, h5⟩ := h
      refine ⟨a, cap, h1, h2, by simp, h4, ?_⟩
      rcases h5 with h5 | h5 | ⟨g, off, k1, k2, k3⟩
      · exact .inl h5
      · exact .inr (.inl h5)
      · obtain ⟨cells, e, fr, k4, k5⟩ := k3
        exact .inr <| .inr ⟨g, off, k1, hsub _ k2, cells, e, fr, k4, k5.keep (.refl w (fun _ => False)) hsub (MuLe.refl _)⟩
    · simp [V.R] at h
    · simp [V.R]
    · rename_i h1 h2 h3 h4 h5 h7 h6 h8 h9
      cases c
      case osl => exact absurd rfl (h8 _ _ _ _)
      case eptr => exact absurd rfl (h9 _ _ _)
      case ptr => exact absurd rfl (h2 _ _)
      case sl => exact absurd rfl (h1 _ _ _ _)
      case agg => exact absurd rfl (h3 _)
      case tup => exact absurd rfl (h4 _)
      case fn => exact absurd rfl (h5 _ _)
      case box => exact absurd rfl (h7 _ _)
      case dsl => exact absurd rfl (h6 _ _ _)
      case dptr => exact (h.keep (.refl w (fun _ => False)) hsub (MuLe.refl _) : V.R P I2 μ w _ u) |> (fun h => by simpa only [V.R] using h)
      all_goals (first | (simp only [V.R] at h; done) | (simp only [V.R]; done) | (simp only [V.R] at h ⊢; exact h))

mutual
theorem bare_R : ∀ (c : V) (u : Value), c.bare = true → V.R P I μ w c u → V.R P I2 noMu w c u
  | .int _ _, _, _, h => by simpa only [V.R] using h
  | .bool _, _, _, h => by simpa only [V.R] using h
  | .str _, _, _, h => by simpa only [V.R] using h
  | .nilp, _, _, h => by simpa only [V.R] using h
  | .nilf, _, _, h => by simpa only [V.R] using h
  | .lit _, _, _, h => by simpa only [V.R] using h
  | .junk, _, _, _ => by simp only [V.R]
  | .dsl n f cs, _, hb, h => by
    simp only [V.R] at h ⊢
    obtain ⟨a, cap, h1, h2, h3, h4, _⟩ := h
    refine ⟨a, cap, h1, h2, h3, h4, ?_⟩
    cases cs with
    | nil => exact .inl rfl
    | cons x t => cases n with
      | zero => exact .inr (.inl rfl)
      | succ n => simp [V.bare] at hb
  | .agg cs, _, hb, h => by
    simp only [V.R] at h ⊢
    obtain ⟨vs, h1, h2⟩ := h
    exact ⟨vs, h1, bareL_R cs _ (by simpa only [V.bare] using hb) h2⟩
  | .tup cs, _, hb, h => by
    simp only [V.R] at h ⊢
    obtain ⟨vs, h1, h2⟩ := h
    exact ⟨vs, h1, bareL_R cs _ (by simpa only [V.bare] using hb) h2⟩
  | .ptr _ _, _, hb, _ => by simp [V.bare] at hb
  | .sl _ _ _ _, _, hb, _ => by simp [V.bare] at hb
  | .dptr _, _, hb, _ => by simp [V.bare] at hb
  | .sld _, _, hb, _ => by simp [V.bare] at hb
  | .slo _, _, hb, _ => by simp [V.bare] at hb
  | .fn _ _, _, hb, _ => by simp [V.bare] at hb
  | .box _ _, _, hb, _ => by simp [V.bare] at hb
  | .eptr _ _ _, _, hb, _ => by simp [V.bare] at hb
  | .osl _ _ _ _, _, hb, _ => by simp [V.bare] at hb
theorem bareL_R : ∀ (cs : List V) (us : List Value), V.bareL cs = true → V.RL P I μ w cs us → V.RL P I2 noMu w cs us
  | [], _, _, h => by simpa only [V.RL] using h
  | c :: cs, _, hb, h => by
    simp only [V.bareL, Bool.and_eq_true] at hb
    simp only [V.RL] at h ⊢
    obtain ⟨u, us, h1, h2, h3⟩ := h
    exact ⟨u, us, h1, bare_R c u hb.1 h2, bareL_R cs us hb.2 h3⟩
end
end

theorem FnOK.lend {P : Program} {f : FuncId} {vs vs' : List V} {hp : Hp} {v : V} (k : Nat) (e : vs.map (lnd P hp k) = vs') (h : FnOK P f vs' [] ⟨v, [], []⟩) (hv : v.bare = true) : FnOK P f vs hp ⟨v, hp, []⟩ := by
  subst e
  obtain ⟨_, hmain⟩ := h
  refine ⟨⟨Nat.le_refl _, fun _ _ _ => rfl, by simp, fun _ _ h => h⟩, fun I w μ vals hvals pre hdom => ?_⟩
  let I2 : Nat → Prop := fun k => I k ∨ ∃ b blk, hp[b]? = some (some blk) ∧ μ.own b k
  have hI : Sub I I2 := fun k hk => .inl hk
  have hall : ∀ b blk, hp[b]? = some (some blk) → Holds P I μ w b blk := fun b blk hb => pre.holds b (by simpa using (List.getElem?_eq_some_iff.1 hb).1) blk hb
  have hv2 : V.RL P I2 noMu w (vs.map (lnd P hp k)) vals.toList := by
    have hl : ∀ (cs : List V) (us : List Value), V.RL P I μ w cs us → V.RL P I2 noMu w (cs.map (lnd P hp k)) us := by
      intro cs
      induction cs with
      | nil => intro us h; simpa [V.RL] using h
      | cons c cs ihc =>
        intro us h
        simp only [V.RL] at h
        obtain ⟨u, us', rfl, h1, h2⟩ := h
        simp only [List.map_cons, V.RL]
        exact ⟨u, us', rfl, lnd_R hI (fun b blk hb => ⟨hall b blk hb, fun g hg => .inr ⟨b, blk, hb, hg⟩⟩) k c u h1, ihc us' h2⟩
    exact hl _ _ hvals
  have pre2 : Pre P I2 noMu w [] (List.range ([] : Hp).length) 0 := by
    refine ⟨pre.ilt.step (.refl w (fun _ => False)) hI fun k hk => ?_, fun b hb => by simp at hb, fun b hb => by simp at hb, fun b _ hb => by omega⟩
    rcases hk with hk | ⟨b, blk, hb, hg⟩
    · exact pre.ilt k hk
    · exact (hall b blk hb).lt hg
  refine (hmain I2 w noMu vals hv2 pre2 (fun b g h => by cases h)).mono fun e w' ⟨val, μ', I', he, hR, G⟩ => ⟨val, μ, I, he, R_up (bare_R v val hv hR), ?_⟩
  have hE : Evo I w w' (fun _ => False) := (G.evo.less hI).mono fun j ⟨b, hb, _⟩ => by simp at hb
  refine ⟨.refl _, fun k hk => .inl hk, hE.mono (fun _ h => h.elim), .refl _, fun b g h => .inl h, fun _ _ _ => rfl, fun b hb blk hblk => ?_, fun b hb blk hblk => ?_, fun b c b1 b2 g hne hb hc h1 h2 => pre.inj b (by simpa using (List.getElem?_eq_some_iff.1 h1).1) c (by simpa using (List.getElem?_eq_some_iff.1 h2).1) b1 b2 g hne h1 h2⟩
  · exact (hall b blk hblk).keep hE (.refl _) (.refl _) (fun h => h) rfl (fun _ _ h => h) fun g hg => (hall b blk hblk).nimm hg
  · rcases hb with hb | hb
    · rw [List.getElem?_eq_none hb] at hblk; cases hblk
    · cases hb

theorem FnOK.giveAll {P : Program} {f : FuncId} {vs vs' : List V} {hp : Hp} {v : V} (k : Nat) (e : vs.map (lnd P hp k) = vs') (h : FnOK P f vs' [] ⟨v, [], []⟩) : FnOK P f vs hp ⟨v, hp.map fun _ => none, List.range hp.length⟩ := by
  subst e
  obtain ⟨_, hmain⟩ := h
  have hno : ∀ b blk, (hp.map fun _ => (none : Option Blk))[b]? = some (some blk) → False := fun b blk h => by
    rw [List.getElem?_map] at h
    obtain ⟨x, _, h⟩ := Option.map_eq_some_iff.1 h
    cases h
  refine ⟨⟨by simp, fun b hb hn => absurd (List.mem_range.2 hb) hn, fun b hb => by simpa using hb, fun b hb ⟨blk, h⟩ => (hno b blk h).elim⟩, fun I w μ vals hvals pre hdom => ?_⟩
  let I2 : Nat → Prop := fun k => I k ∨ ∃ b blk, hp[b]? = some (some blk) ∧ μ.own b k
  have hI : Sub I I2 := fun k hk => .inl hk
  have hall : ∀ b blk, hp[b]? = some (some blk) → Holds P I μ w b blk := fun b blk hb => pre.holds b (by simpa using (List.getElem?_eq_some_iff.1 hb).1) blk hb
  have hv2 : V.RL P I2 noMu w (vs.map (lnd P hp k)) vals.toList := by
    have hl : ∀ (cs : List V) (us : List Value), V.RL P I μ w cs us → V.RL P I2 noMu w (cs.map (lnd P hp k)) us := by
      intro cs
      induction cs with
      | nil => intro us h; simpa [V.RL] using h
      | cons c cs ihc =>
        intro us h
        simp only [V.RL] at h
        obtain ⟨u, us', rfl, h1, h2⟩ := h
        simp only [List.map_cons, V.RL]
        exact ⟨u, us', rfl, lnd_R hI (fun b blk hb => ⟨hall b blk hb, fun g hg => .inr ⟨b, blk, hb, hg⟩⟩) k c u h1, ihc us' h2⟩
    exact hl _ _ hvals
  have pre2 : Pre P I2 noMu w [] (List.range ([] : Hp).length) 0 := by
    refine ⟨pre.ilt.step (.refl w (fun _ => False)) hI fun k hk => ?_, fun b hb => by simp at hb, fun b hb => by simp at hb, fun b _ hb => by omega⟩
    rcases hk with hk | ⟨b, blk, hb, hg⟩
    · exact pre.ilt k hk
    · exact (hall b blk hb).lt hg
  refine (hmain I2 w noMu vals hv2 pre2 (fun b g h => by cases h)).mono fun e w' ⟨val, μ', I', he, hR, G⟩ => ⟨val, μ, I', he, ?_, ?_⟩
  · refine hR.keep (.refl w' (fun _ => False)) (.refl _) (fun b g hb => ?_)
    rcases G.dom b g hb with h | ⟨h1, h2⟩
    · cases h
    · simp at h2
  · refine ⟨fun k hk => G.isub k (.inl hk), fun k hk => ?_, (G.evo.less hI).mono fun j ⟨b, hb, _⟩ => by simp at hb, .refl _, fun b g h => .inl h, fun _ _ _ => rfl, fun b hb blk hblk => (hno b blk hblk).elim, fun b hb blk hblk => (hno b blk hblk).elim, fun b c b1 b2 g hne hb hc h1 => (hno b b1 h1).elim⟩
    rcases G.igrow k hk with (h | ⟨b, blk, hb, hg⟩) | h | ⟨c, h1, _⟩
    · exact .inl h
    · exact .inr (.inr ⟨b, by simpa using (List.getElem?_eq_some_iff.1 hb).1, hg, blk, hb⟩)
    · exact .inr (.inl h)
    · simp at h1

end Go.Proofs.YtfncaghjfgnnhaaGreatDoor

namespace Go.Proofs.YtfncaghjfgnnhaaGreatDoor
open Go.RowKit
set_option maxRecDepth 100000

section
variable {P : Program} {I I1 I2 : Nat → Prop} {μ μ1 μ2 : Mu} {w w1 w2 : World} {hp hp1 hp2 : Hp}

theorem Good.trans {wr1 wr2 wr : List Nat} (G1 : Good P I I1 μ μ1 w w1 hp hp1 (List.range hp.length) wr1) (G2 : Good P I1 I2 μ1 μ2 w1 w2 hp1 hp2 (List.range hp1.length) wr2)
    (hl1 : hp.length ≤ hp1.length) (hl2 : hp1.length ≤ hp2.length) (hw2 : ∀ b ∈ wr2, b < hp.length) (al1 : ∀ b, b < hp.length → Alive hp1 b → Alive hp b) (al2 : ∀ b, b < hp1.length → Alive hp2 b → Alive hp1 b)
    (al3 : ∀ b ∈ wr2, b ∈ wr1 → Alive hp1 b) (h1 : ∀ b ∈ wr1, b ∈ wr) (h2 : ∀ b ∈ wr2, b ∈ wr) : Good P I I2 μ μ2 w w2 hp hp2 (List.range hp.length) wr := by
  have back : ∀ b g, b < hp.length → μ1 b = some g → μ b = some g := by
    intro b g hb hg
    rcases G1.dom b g hg with h | h
    · exact h
    · omega
  have backO : ∀ b g, b < hp.length → ∀ blk, hp1[b]? = some (some blk) → μ1.own b g → w.heap.size ≤ g ∨ ∃ c, (c = b ∨ c ∈ wr1) ∧ μ.own c g ∧ ∃ blk, hp[c]? = some (some blk) := by
    intro b g hb blk hblk hg
    by_cases hw : b ∈ wr1
    · rcases G1.prov b (.inr hw) blk hblk g hg with h | ⟨c, c1, c2⟩
      · exact .inl h
      · exact .inr ⟨c, .inr c1, c2⟩
    · refine .inr ⟨b, .inl rfl, ?_, al1 b hb ⟨blk, hblk⟩⟩
      rcases hg with hg | hg
      · exact .inl (back b g hb hg)
      · rw [G1.ftd b hw (by omega)] at hg; exact .inr hg
  have inAll : ∀ (hp : Hp) (b : Nat), b ∈ List.range hp.length ∨ hp.length ≤ b := fun hp b => by rw [List.mem_range]; omega
  have backW : ∀ c k, c ∈ wr2 → ∀ blk, hp1[c]? = some (some blk) → μ1.own c k → w.heap.size ≤ k ∧ k < w2.heap.size ∨ ∃ c ∈ wr, μ.own c k ∧ ∃ blk, hp[c]? = some (some blk) := by
    intro c k c1 blk c3 c2
    have hc := hw2 c c1
    rcases backO c k hc blk c3 c2 with h | ⟨d, d1, d2, d3⟩
    · exact .inl ⟨h, Nat.lt_of_lt_of_le ((G1.holds c (inAll hp c) blk c3).lt c2) G2.evo.size⟩
    · refine .inr ⟨d, ?_, d2, d3⟩
      rcases d1 with rfl | d1
      · exact h2 d c1
      · exact h1 d d1
  refine ⟨fun k hk => G2.isub k (G1.isub k hk), fun k hk => ?_, ?_, G1.le.trans G2.le, fun b g hg => ?_, fun b hb hn => ?_, fun b hb blk hblk => G2.holds b (inAll hp1 b) blk hblk, fun b hb blk hblk g hg => ?_, fun b c blk blk' g hne hb hc hbb hcc hbg hcg => G2.inj b c blk blk' g hne (inAll hp1 b) (inAll hp1 c) hbb hcc hbg hcg⟩
  · rcases G2.igrow k hk with h | ⟨h, h'⟩ | ⟨c, c1, c2, ⟨blk, c3⟩⟩
    · rcases G1.igrow k h with h | ⟨h, h'⟩ | ⟨c, c1, c2, c3⟩
      · exact .inl h
      · exact .inr (.inl ⟨h, Nat.lt_of_lt_of_le h' G2.evo.size⟩)
      · exact .inr (.inr ⟨c, h1 c c1, c2, c3⟩)
    · exact .inr (.inl ⟨Nat.le_trans G1.evo.size h, h'⟩)
    · exact .inr (backW c k c1 blk c3 c2)
  · refine (G1.evo.mono fun k ⟨b, hb, hg⟩ => ⟨b, h1 b hb, hg⟩).trans G2.evo G1.isub fun j hj ⟨b, hb, hg⟩ => ?_
    by_cases hbw : b ∈ wr1
    · obtain ⟨blk, hblk⟩ := al3 b hb hbw
      rcases backW b j hb blk hblk hg with h | ⟨c, c1, c2, _⟩
      · omega
      · exact ⟨c, c1, c2⟩
    · refine ⟨b, h2 b hb, ?_⟩
      have hbl := hw2 b hb
      rcases hg with hg | hg
      · exact .inl (back b j hbl hg)
      · rw [G1.ftd b hbw (by omega)] at hg; exact .inr hg
  · rcases G2.dom b g hg with h | h
    · rcases G1.dom b g h with h | h
      · exact .inl h
      · exact .inr (by omega)
    · exact .inr (by omega)
  · rw [G2.ftd b (fun h => hb (h2 b h)) (fun h => hn (by omega)), G1.ftd b (fun h => hb (h1 b h)) (fun h => hn (by omega))]
  · by_cases h2w : hp1.length ≤ b ∨ b ∈ wr2
    · rcases G2.prov b h2w blk hblk g hg with h' | ⟨c, c1, c2, ⟨blk1, c3⟩⟩
      · exact .inl (Nat.le_trans G1.evo.size h')
      · exact (backW c g c1 blk1 c3 c2).imp (fun h => h.1) id
    · simp only [not_or, Nat.not_le] at h2w
      obtain ⟨blk1, hb1⟩ := al2 b h2w.1 ⟨blk, hblk⟩
      have hg1 : μ1.own b g := by
        rcases hg with hg | hg
        · rcases G2.dom b g hg with h' | h'
          · exact .inl h'
          · omega
        · rw [G2.ftd b h2w.2 (by omega)] at hg; exact .inr hg
      by_cases h1w : hp.length ≤ b ∨ b ∈ wr1
      · rcases G1.prov b h1w blk1 hb1 g hg1 with h' | ⟨c, c1, c2, c3⟩
        · exact .inl h'
        · exact .inr ⟨c, h1 c c1, c2, c3⟩
      · simp only [not_or, Nat.not_le] at h1w
        rcases backO b g h1w.1 blk1 hb1 hg1 with h | ⟨c, c1, c2, c3⟩
        · exact .inl h
        · refine .inr ⟨c, ?_, c2, c3⟩
          rcases c1 with rfl | c1
          · rcases hb with hb | hb
            · omega
            · exact hb
          · exact h1 c c1

theorem Good.pre {wr : List Nat} (G : Good P I I1 μ μ1 w w1 hp hp1 (List.range hp.length) wr) (hl1 : hp.length ≤ hp1.length) {t0 : Nat} (p0 : Pre P I μ w hp (List.range hp.length) t0) (hdom : ∀ b g, μ b = some g → b < hp.length) (top : Nat) : Pre P I1 μ1 w1 hp1 (List.range hp1.length) top := by
  refine ⟨p0.ilt.step G.evo G.isub fun k hk => ?_, fun b hb blk h => ?_, fun b hb c hc blk blk' g hne h1 h2 h3 h4 => ?_, fun b hb _ => ?_⟩
  · rcases G.igrow k hk with h | ⟨_, h⟩ | ⟨c, c1, c2, ⟨blk, c3⟩⟩
    · exact Nat.lt_of_lt_of_le (p0.ilt k h) G.evo.size
    · exact h
    · exact Nat.lt_of_lt_of_le ((p0.holds c (by simpa using at_lt c3) _ c3).lt c2) G.evo.size
  · refine G.holds b ?_ blk h
    by_cases h : b < hp.length
    · exact .inl (by simpa using h)
    · exact .inr (by omega)
  · have key : ∀ b : Nat, b ∈ List.range hp.length ∨ hp.length ≤ b := by
      intro b
      by_cases h : b < hp.length
      · exact .inl (by simpa using h)
      · exact .inr (by omega)
    exact G.inj b c blk blk' g hne (key b) (key c) h1 h2 h3 h4
  · cases hμ : μ1 b with
    | none => rfl
    | some g =>
      rcases G.dom b g hμ with h | h
      · have := hdom b g h; omega
      · omega


theorem Good.trans2 {wr1 wr2 wr : List Nat} (G1 : Good P I I1 μ μ1 w w1 hp hp1 (List.range hp.length) wr1) (G2 : Good P I1 I2 μ1 μ2 w1 w2 hp1 hp2 (List.range hp1.length) wr2)
    (hl1 : hp.length ≤ hp1.length) (hl2 : hp1.length ≤ hp2.length) (hw2 : ∀ b ∈ wr2, b < hp1.length) (al1 : ∀ b, b < hp.length → Alive hp1 b → Alive hp b) (al2 : ∀ b, b < hp1.length → Alive hp2 b → Alive hp1 b)
    (al3 : ∀ b ∈ wr2, b ∈ wr1 ∨ hp.length ≤ b → Alive hp1 b) (h1 : ∀ b ∈ wr1, b ∈ wr) (h2 : ∀ b ∈ wr2, b < hp.length → b ∈ wr) (h3 : ∀ b ∈ wr, b ∈ wr1 ∨ b ∈ wr2) (hdom : ∀ b g, μ b = some g → b < hp.length) : Good P I I2 μ μ2 w w2 hp hp2 (List.range hp.length) wr := by
  have back : ∀ b g, b < hp.length → μ1 b = some g → μ b = some g := by
    intro b g hb hg
    rcases G1.dom b g hg with h | h
    · exact h
    · omega
  have backO : ∀ b g, (∃ blk, hp1[b]? = some (some blk)) → μ1.own b g → w.heap.size ≤ g ∨ ∃ c, (c = b ∨ c ∈ wr1) ∧ c < hp.length + 1 ∧ μ.own c g ∧ (c < hp.length → ∃ blk, hp[c]? = some (some blk)) ∧ (c = b → b < hp.length) ∧ ∃ blk, hp[c]? = some (some blk) := by
    rintro b g ⟨blk, hblk⟩ hg
    have fin : ∀ c, (c = b ∨ c ∈ wr1) → μ.own c g → (c = b → b < hp.length) → (∃ blk, hp[c]? = some (some blk)) → ∃ c, (c = b ∨ c ∈ wr1) ∧ c < hp.length + 1 ∧ μ.own c g ∧ (c < hp.length → ∃ blk, hp[c]? = some (some blk)) ∧ (c = b → b < hp.length) ∧ ∃ blk, hp[c]? = some (some blk) := by
      intro c q1 q2 q3 q4
      refine ⟨c, q1, ?_, q2, fun _ => q4, q3, q4⟩
      obtain ⟨blk, q4⟩ := q4
      have := at_lt q4; omega
    by_cases hb : b < hp.length
    · by_cases hw : b ∈ wr1
      · rcases G1.prov b (.inr hw) blk hblk g hg with h | ⟨c, c1, c2, c3⟩
        · exact .inl h
        · exact .inr (fin c (.inr c1) c2 (fun _ => hb) c3)
      · refine .inr (fin b (.inl rfl) ?_ (fun _ => hb) (al1 b hb ⟨blk, hblk⟩))
        rcases hg with hg | hg
        · exact .inl (back b g hb hg)
        · rw [G1.ftd b hw (by omega)] at hg; exact .inr hg
    · rcases G1.prov b (.inl (by omega)) blk hblk g hg with h | ⟨c, c1, c2, c3⟩
      · exact .inl h
      · refine .inr (fin c (.inr c1) c2 (fun e => ?_) c3)
        obtain ⟨blk, c3⟩ := c3
        rw [← e]; exact at_lt c3
  have inAll : ∀ (hp : Hp) (b : Nat), b ∈ List.range hp.length ∨ hp.length ≤ b := fun hp b => by rw [List.mem_range]; omega
  have backW : ∀ c k, c ∈ wr2 → (∃ blk, hp1[c]? = some (some blk)) → μ1.own c k → w.heap.size ≤ k ∧ k < w2.heap.size ∨ ∃ c ∈ wr, μ.own c k ∧ ∃ blk, hp[c]? = some (some blk) := by
    rintro c k c1 ⟨blk, c3⟩ c2
    rcases backO c k ⟨blk, c3⟩ c2 with h | ⟨d, d1, _, d2, _, d5, d3⟩
    · exact .inl ⟨h, Nat.lt_of_lt_of_le ((G1.holds c (inAll hp c) blk c3).lt c2) G2.evo.size⟩
    · refine .inr ⟨d, ?_, d2, d3⟩
      rcases d1 with rfl | d1
      · exact h2 d c1 (d5 rfl)
      · exact h1 d d1
  refine ⟨fun k hk => G2.isub k (G1.isub k hk), fun k hk => ?_, ?_, G1.le.trans G2.le, fun b g hg => ?_, fun b hb hn => ?_, fun b hb blk hblk => G2.holds b (inAll hp1 b) blk hblk, fun b hb blk hblk g hg => ?_, fun b c blk blk' g hne hb hc hbb hcc hbg hcg => G2.inj b c blk blk' g hne (inAll hp1 b) (inAll hp1 c) hbb hcc hbg hcg⟩
  · rcases G2.igrow k hk with h | ⟨h, h'⟩ | ⟨c, c1, c2, c3⟩
    · rcases G1.igrow k h with h | ⟨h, h'⟩ | ⟨c, c1, c2, c3⟩
      · exact .inl h
      · exact .inr (.inl ⟨h, Nat.lt_of_lt_of_le h' G2.evo.size⟩)
      · exact .inr (.inr ⟨c, h1 c c1, c2, c3⟩)
    · exact .inr (.inl ⟨Nat.le_trans G1.evo.size h, h'⟩)
    · exact .inr (backW c k c1 c3 c2)
  · refine (G1.evo.mono fun k ⟨b, hb, hg⟩ => ⟨b, h1 b hb, hg⟩).trans G2.evo G1.isub fun j hj ⟨b, hb, hg⟩ => ?_
    by_cases hq : b ∈ wr1 ∨ hp.length ≤ b
    · rcases backW b j hb (al3 b hb hq) hg with h | ⟨c, c1, c2, _⟩
      · omega
      · exact ⟨c, c1, c2⟩
    · simp only [not_or, Nat.not_le] at hq
      refine ⟨b, h2 b hb hq.2, ?_⟩
      rcases hg with hg | hg
      · exact .inl (back b j hq.2 hg)
      · rw [G1.ftd b hq.1 (by omega)] at hg; exact .inr hg
  · rcases G2.dom b g hg with h | h
    · rcases G1.dom b g h with h | h
      · exact .inl h
      · exact .inr (by omega)
    · exact .inr (by omega)
  · have hb2 : b ∉ wr2 := by
      intro h
      rcases Nat.lt_or_ge b hp.length with h' | h'
      · exact hb (h2 b h h')
      · have := hw2 b h; omega
    rw [G2.ftd b hb2 (fun h => hn (by omega)), G1.ftd b (fun h => hb (h1 b h)) (fun h => hn (by omega))]
  · by_cases h2w : hp1.length ≤ b ∨ b ∈ wr2
    · rcases G2.prov b h2w blk hblk g hg with h' | ⟨c, c1, c2, c3⟩
      · exact .inl (Nat.le_trans G1.evo.size h')
      · exact (backW c g c1 c3 c2).imp (fun h => h.1) id
    · simp only [not_or, Nat.not_le] at h2w
      obtain ⟨blk1, hb1⟩ := al2 b h2w.1 ⟨blk, hblk⟩
      have hg1 : μ1.own b g := by
        rcases hg with hg | hg
        · rcases G2.dom b g hg with h' | h'
          · exact .inl h'
          · omega
        · rw [G2.ftd b h2w.2 (by omega)] at hg; exact .inr hg
      rcases backO b g ⟨blk1, hb1⟩ hg1 with h | ⟨c, c1, _, c2, _, c5, c3⟩
      · exact .inl h
      · refine .inr ⟨c, ?_, c2, c3⟩
        rcases c1 with rfl | c1
        · rcases hb with hb | hb
          · have := c5 rfl; omega
          · exact hb
        · exact h1 c c1
end

theorem FnOK.prepOut {P : Program} {f : FuncId} {vs : List V} {hp hp1 hp2 : Hp} {v : V} {wr bs : List Nat} (h : FnOK P f vs hp ⟨v, hp1, wr⟩) (p : PrepOK P hp1 hp2 bs) :
    FnOK P f vs hp ⟨v, hp2, wr ++ lows hp bs⟩ := by
  obtain ⟨ht, hmain⟩ := h
  have t := p.tidy
  have al2 : ∀ b, b < hp1.length → Alive hp2 b → Alive hp1 b := fun b hb ⟨blk, hal⟩ => by
    by_cases hbs : b ∈ bs
    · exact t.walive b hbs
    · exact ⟨blk, by rw [← t.frame b hb hbs]; exact hal⟩
  have hl1 : hp.length ≤ hp1.length := ht.len
  refine ⟨⟨Nat.le_trans ht.len t.len, fun b hb hn => ?_, fun b hb => ?_, fun b hb hal => ht.alive b hb (al2 b (Nat.lt_of_lt_of_le hb hl1) hal)⟩, fun I w μ vals hv pre hdom => ?_⟩
  · simp only [List.mem_append, not_or, mem_lows] at hn
    show hp2[b]? = _
    rw [t.frame b (Nat.lt_of_lt_of_le hb hl1) (fun h => hn.2 ⟨h, hb⟩)]
    exact ht.frame b hb hn.1
  · rcases List.mem_append.1 hb with hb | hb
    · exact ht.wrb b hb
    · exact (mem_lows.1 hb).2
  · have pre1 : Pre P I μ w hp (List.range hp.length) hp1.length := pre.top t.len
    refine (hmain I w μ vals hv pre1 hdom).mono fun e w' ⟨val, μ', I', he, hR, G⟩ => ?_
    have pre2 := G.pre hl1 pre1 hdom hp2.length
    obtain ⟨μ2, G2⟩ := p.run pre2 (fun b hb => by simpa using t.accb b hb)
    refine ⟨val, μ2, I', he, hR.keep (.refl w' (fun _ => False)) (.refl _) G2.le, ?_⟩
    exact G.trans2 G2 hl1 t.len t.accb ht.alive al2 (fun b hb _ => t.walive b hb) (fun b hb => by simp [hb]) (fun b hb hl => by simp [mem_lows, hb, hl]) (fun b hb => by
      rcases List.mem_append.1 hb with hb | hb
      · exact .inl hb
      · exact .inr (mem_lows.1 hb).1) hdom

theorem FnOK.prepIn {P : Program} {f : FuncId} {vs : List V} {hp hp1 : Hp} {r : Ret} {bs : List Nat} (p : PrepOK P hp hp1 bs) (h : FnOK P f vs hp1 r) (hal : ∀ b ∈ r.wr, b ∈ bs ∨ hp.length ≤ b → Alive hp1 b) :
    FnOK P f vs hp ⟨r.v, r.hp, lows hp (bs ++ r.wr)⟩ := by
  obtain ⟨ht, hmain⟩ := h
  have t := p.tidy
  have al2 : ∀ b, b < hp.length → Alive hp1 b → Alive hp b := fun b hb ⟨blk, hal⟩ => by
    by_cases hbs : b ∈ bs
    · exact t.walive b hbs
    · exact ⟨blk, by rw [← t.frame b hb hbs]; exact hal⟩
  refine ⟨⟨Nat.le_trans t.len ht.len, fun b hb hn => ?_, fun b hb => (mem_lows.1 hb).2, fun b hb hal => al2 b hb (ht.alive b (Nat.lt_of_lt_of_le hb t.len) hal)⟩, fun I w μ vals hv pre hdom => ?_⟩
  · have h1 : b ∉ bs := fun h1 => hn (mem_lows.2 ⟨by simp [h1], hb⟩)
    have h2 : b ∉ r.wr := fun h1 => hn (mem_lows.2 ⟨by simp [h1], hb⟩)
    show r.hp[b]? = _
    rw [ht.frame b (Nat.lt_of_lt_of_le hb t.len) h2, t.frame b hb h1]
  · obtain ⟨μ1, G1⟩ := p.run (acc := List.range hp.length) (pre.top ht.len) (fun b hb => by simpa using t.accb b hb)
    have dom1 : ∀ b g, μ1 b = some g → b < hp1.length := fun b g hg => by
      rcases G1.dom b g hg with h | h
      · exact Nat.lt_of_lt_of_le (hdom b g h) t.len
      · exact h.2
    have pre1 := G1.pre t.len pre hdom r.hp.length
    refine (hmain I w μ1 vals (hv.keep (.refl w (fun _ => False)) (.refl _) G1.le) pre1 dom1).mono fun e w' ⟨val, μ', I', he, hR, G⟩ => ⟨val, μ', I', he, hR, ?_⟩
    have hwl : ∀ b ∈ r.wr, b < hp1.length := ht.wrb
    exact G1.trans2 G t.len ht.len hwl al2 ht.alive hal (fun b hb => mem_lows.2 ⟨by simp [hb], t.accb b hb⟩) (fun b hb hl => mem_lows.2 ⟨by simp [hb], hl⟩) (fun b hb => by
        rcases List.mem_append.1 (mem_lows.1 hb).1 with hb | hb
        · exact .inl hb
        · exact .inr hb) hdom
end Go.Proofs.YtfncaghjfgnnhaaGreatDoor

namespace Go.Proofs.YtfncaghjfgnnhaaGreatDoor
open Go.RowKit
set_option maxRecDepth 100000

section
variable {P : Program} {I I1 I2 : Nat → Prop} {μ μ1 μ2 : Mu} {w w1 w2 : World} {hp hp1 hp2 : Hp}

theorem Good.drew (pre : Pre P I μ w hp (List.range hp.length) hp.length) : Good P I I μ μ w w.drew hp hp (List.range hp.length) [] := by
  have G := Good.same hp pre
  have hE : ∀ X, Evo I w w.drew X := fun X => .drew w X
  refine ⟨.refl _, fun k hk => .inl hk, hE _, .refl _, fun b g h => .inl h, fun _ _ _ => rfl, fun b hb blk h => ?_, fun b hb blk h => ?_, G.inj⟩
  · exact (G.holds b hb blk h).keep (hE (fun _ => False)) (.refl _) (.refl _) (fun h => h) rfl (fun _ _ h => h) fun g hg => (G.holds b hb blk h).nimm hg
  · rcases hb with hb | hb
    · exact absurd (at_lt h) (by omega)
    · cases hb

theorem splice1 {cs : List V} {j : Nat} {x : V} (h : hasSeal cs = false) (hj : j < cs.length) : spliceV cs j 1 [x] = some (cs.set j x) := by
  unfold spliceV
  rw [h]
  simp only [Option.some.injEq]
  rw [List.set_eq_take_append_cons_drop, if_pos hj]
  simp

theorem Good.setCell {b g j : Nat} {cs : List V} {T : TypeId} {x : V} {v : Value} (pre : Pre P I μ w hp (List.range hp.length) hp.length) (hb : hp[b]? = some (some (cs, T))) (hs : hasSeal cs = false) (hg : μ b = some g) (hj : j < cs.length) (hx : V.R P I μ w x v) (h1 : x.one = true) (hT : rowT T = true) :
    ∃ F, Good P I I μ (μ.setFt b F) w (w.setCell ⟨g, j, none⟩ v) hp (hp.set b (some (cs.set j x, T))) (List.range hp.length) [b] := by
  obtain ⟨ar, fr, _, hw, hfr, ⟨hsz, hcr⟩, _⟩ := (pre.holds b (by simpa using at_lt hb) _ hb).real hT hg
  rw [setCell_eq_setRow w g j ar T fr v hw]
  have hn : V.RL P I μ w [x] [v] := by simp only [V.RL]; exact ⟨v, [], rfl, hx, rfl⟩
  have hle : j + 1 ≤ (flat cs).length := by
    have := flat_noSeal hs
    rw [this]; omega
  obtain ⟨hl2, F', hF', hcr2⟩ := splice_sound (splice1 (x := x) hs hj) hcr hn rfl hle
  refine ⟨F', Good.writeC (blk := (cs, T)) (blk' := (cs.set j x, T)) pre (by simpa using at_lt hb) hb hg hw rfl (by simp) hfr hF' ⟨?_, ?_⟩⟩
  · show (flat (cs.set j x)).length ≤ _
    rw [hl2]; simpa using hsz
  · show CR P I μ w F' (cs.set j x) _
    rw [hl2]
    have e : (ar.setIfInBounds j v).toList.take (flat cs).length = (ar.toList.take (flat cs).length).take j ++ [v] ++ (ar.toList.take (flat cs).length).drop (j + 1) := by
      rw [Array.toList_setIfInBounds, List.take_set, List.set_eq_take_append_cons_drop, if_pos (by simp only [List.length_take, Array.length_toList]; simp only at hsz; omega)]
      simp
    rw [e]; exact hcr2
end

end Go.Proofs.YtfncaghjfgnnhaaGreatDoor

namespace Go.Proofs.YtfncaghjfgnnhaaGreatDoor
open Go.RowKit
set_option maxRecDepth 100000

abbrev fDo : Nat := 102

theorem Holds.frozen {P : Program} {I : Nat → Prop} {μ : Mu} {w : World} {b g j : Nat} {blk : Blk} (h : Holds P I μ w b blk) (hT : rowT blk.2 = true) (hg : μ b = some g) (hj : j < (flat blk.1).length) : w.frozen? ⟨g, j, none⟩ = false := by
  obtain ⟨cs, fr, _, h2, h3, ⟨h4, _⟩, _⟩ := h.real hT hg
  unfold World.frozen?
  rw [h2]
  obtain ⟨lo, hi⟩ := fr
  simp only at h3 ⊢
  rcases h3 with h3 | h3
  · by_cases h : lo ≤ j
    · have : ¬ j < hi := by omega
      simp [this]
    · simp [h]
  · have : ¬ lo ≤ j := by omega
    simp [this]
theorem Holds.int {P : Program} {I : Nat → Prop} {μ : Mu} {w : World} {b g j : Nat} {blk : Blk} {k : IntKind} {n : Int} (h : Holds P I μ w b blk) (hT : rowT blk.2 = true) (hg : μ b = some g) (hj : (flat blk.1)[j]? = some (.int k n)) : w.cell? ⟨g, j, none⟩ = some (.int k n) := by
  obtain ⟨u, h1, h2⟩ := h.cell hT hg hj rfl
  simp only [V.R] at h2
  rw [h1, h2]

theorem FnOK.once {rest0 rest2 : List V} {T : TypeId} {hp hp2 : Hp} {wr : List Nat} (hs0 : hasSeal rest0 = false) (hs2 : hasSeal rest2 = false) (hT : rowT T = true)
    (h : FnOK Tryz.prog fBuildOnce [.ptr 0 0] (some (.int .u32 0 :: .int .i32 1 :: rest0, T) :: hp) ⟨.tup [], some (.int .u32 0 :: .int .i32 1 :: rest2, T) :: hp2, wr⟩) :
    FnOK Tryz.prog fDo [.ptr 0 0, .box (.bound fBuildOnce 1) [.ptr 0 0]] (some (.int .u32 0 :: .int .i32 0 :: rest0, T) :: hp) ⟨.tup [], some (.int .u32 1 :: .int .i32 0 :: rest2, T) :: hp2, 0 :: wr⟩ := by
  have hs0' : ∀ a b : Int, hasSeal (.int .u32 a :: .int .i32 b :: rest0) = false := fun a b => by simp [hasSeal, hs0]
  have hs2' : ∀ a b : Int, hasSeal (.int .u32 a :: .int .i32 b :: rest2) = false := fun a b => by simp [hasSeal, hs2]
  obtain ⟨ht, hm⟩ := h
  have hlen : hp.length ≤ hp2.length := by simpa using ht.len
  refine ⟨⟨by simpa using hlen, fun b hb hn => ?_, fun b hb => ?_, fun b hb ha => ?_⟩, fun I w μ vals hv pre hdom => ?_⟩
  · simp only [List.mem_cons, not_or] at hn
    have := ht.frame b hb hn.2
    rcases b with _ | b
    · exact absurd rfl hn.1
    · exact this
  · rcases List.mem_cons.1 hb with rfl | hb
    · simp
    · exact ht.wrb b hb
  · rcases b with _ | b
    · exact ⟨_, rfl⟩
    · exact ht.alive (b + 1) hb ha
  simp only [V.RL, V.R] at hv
  obtain ⟨_, _, hvals, ⟨g, hg, rfl⟩, _, _, rfl, ⟨vs, rfl, _, _, hvs, ⟨g', hg', rfl⟩, rfl⟩, rfl⟩ := hv
  rw [hg] at hg'; cases hg'
  obtain rfl : vs = #[.pointer (some ⟨g, 0, none⟩)] := by cases vs; simp_all
  have hvals : vals = #[.pointer (some ⟨g, 0, none⟩), .func (.func fBuildOnce) #[.pointer (some ⟨g, 0, none⟩)] #[]] := by
    cases vals
    simp only at hvals
    rw [hvals]
    simp [BK.mk]
  subst hvals
  have pre0 := pre.top (top' := (some (.int .u32 0 :: .int .i32 0 :: rest0, T) :: hp : Hp).length) (by simpa using hlen)
  have H0 := pre0.holds 0 (by simp) _ rfl
  have e0 : ∀ (a b : Int) (r : List V), hasSeal r = false → flat (.int .u32 a :: .int .i32 b :: r) = .int .u32 a :: .int .i32 b :: r := fun a b r hr => flat_noSeal (by simp [hasSeal, hr])
  obtain ⟨F1, G1⟩ := Good.setCell (j := 1) (x := .int .i32 1) (v := .int .i32 1) pre0 rfl (hs0' 0 0) hg (by simp) (by simp [V.R]) rfl hT
  simp only [List.set_cons_zero, List.set_cons_succ] at G1
  have pre1 := G1.pre (by simp) pre0 hdom (hp2.length + 1)
  have hcall := hm I _ (μ.setFt 0 F1) #[.pointer (some ⟨g, 0, none⟩)] (by simp only [V.RL, V.R]; exact ⟨_, [], rfl, ⟨g, hg, rfl⟩, rfl⟩) pre1 (fun b k hk => hdom b k hk)
  refine (do_first g 0 (.pointer (some ⟨g, 0, none⟩)) (fun w2 => ∃ μ2 I2, Good Tryz.prog I I2 (μ.setFt 0 F1) μ2 (w.setCell ⟨g, 1, none⟩ (.int .i32 1)) w2 (some (.int .u32 0 :: .int .i32 1 :: rest0, T) :: hp) (some (.int .u32 0 :: .int .i32 1 :: rest2, T) :: hp2) (List.range (some (.int .u32 0 :: .int .i32 1 :: rest0, T) :: hp : Hp).length) wr) w
    (H0.int hT hg (by rw [e0 0 0 _ hs0]; rfl)) (H0.int hT hg (by rw [e0 0 0 _ hs0]; rfl)) (H0.frozen hT hg (by rw [e0 0 0 _ hs0]; simp)) ?_ ?_).mono ?_
  · refine hcall.mono ?_
    rintro e w' ⟨val, μ', I', rfl, hR, G⟩
    simp only [V.R, V.RL] at hR
    obtain ⟨vs, rfl, hvs⟩ := hR
    obtain rfl : vs = #[] := by cases vs; simp_all
    exact ⟨rfl, μ', I', G⟩
  · rintro w2 ⟨μ2, I2, G2⟩
    have H2 := G2.holds 0 (.inl (by simp)) _ rfl
    have hg2 := G2.le 0 g hg
    exact ⟨H2.int hT hg2 (by rw [e0 0 1 _ hs2]; rfl), H2.int hT hg2 (by rw [e0 0 1 _ hs2]; rfl), H2.frozen hT hg2 (by rw [e0 0 1 _ hs2]; simp), H2.frozen hT hg2 (by rw [e0 0 1 _ hs2]; simp)⟩
  · rintro e w' ⟨rfl, w2, ⟨μ2, I2, G2⟩, rfl⟩
    have hg2 := G2.le 0 g hg
    have wrb : ∀ b ∈ wr, b < hp.length + 1 := fun b hb => by simpa using ht.wrb b hb
    have G12 := G1.trans (wr := 0 :: wr) G2 (by simp) (by simpa using hlen) (fun b hb => by simpa using wrb b hb) (fun b hb ha => by
      rcases b with _ | b
      · exact ⟨_, rfl⟩
      · exact ha) (fun b hb ha => ht.alive b hb ha) (fun b _ hb => by simp at hb; subst hb; exact ⟨_, rfl⟩) (fun b hb => by simp at hb; simp [hb]) (fun b hb => by simp [hb])
    have dom2 : ∀ b k, μ2 b = some k → b < hp2.length + 1 := fun b k hk => by
      rcases G12.dom b k hk with h | h
      · have := hdom b k h; simp at this; omega
      · simpa using h.2
    have pre2 := G12.pre (by simpa using hlen) pre0 hdom (hp2.length + 1)
    have G3 := Good.drew pre2
    obtain ⟨F4, G4⟩ := Good.setCell (j := 0) (x := .int .u32 1) (v := .int .u32 1) (G3.pre (Nat.le_refl _) pre2 dom2 (hp2.length + 1)) rfl (hs2' 0 1) hg2 (by simp) (by simp [V.R]) rfl hT
    have G34 := G3.trans (wr := [0]) G4 (Nat.le_refl _) (by simp) (fun b hb => by simp at hb; simp [hb]) (fun b hb ha => ha) (fun b hb ha => by
      rcases b with _ | b
      · exact ⟨_, rfl⟩
      · exact ha) (fun b hb _ => by simp at hb; subst hb; exact ⟨_, rfl⟩) (fun b hb => by simp at hb) (fun b hb => hb)
    simp only [List.set_cons_zero] at G34 G4
    have pre4 := G34.pre (by simp) pre2 dom2 (hp2.length + 1)
    obtain ⟨F5, G5⟩ := Good.setCell (j := 1) (x := .int .i32 0) (v := .int .i32 0) pre4 rfl (hs2' 1 1) hg2 (by simp) (by simp [V.R]) rfl hT
    simp only [List.set_cons_zero, List.set_cons_succ] at G5
    have G345 := G34.trans (wr := [0]) G5 (by simp) (by simp) (fun b hb => by simp at hb; simp [hb]) (fun b hb ha => by
      rcases b with _ | b
      · exact ⟨_, rfl⟩
      · exact ha) (fun b hb ha => by
      rcases b with _ | b
      · exact ⟨_, rfl⟩
      · exact ha) (fun b hb _ => by simp at hb; subst hb; exact ⟨_, rfl⟩) (fun b hb => hb) (fun b hb => hb)
    have GG := G12.trans (wr := 0 :: wr) G345 (by simpa using hlen) (by simp) (fun b hb => by simp at hb; simp [hb]) (fun b hb ha => by
      rcases b with _ | b
      · exact ⟨_, rfl⟩
      · exact ht.alive (b + 1) hb ha) (fun b hb ha => by
      rcases b with _ | b
      · exact ⟨_, rfl⟩
      · exact ha) (fun b hb _ => by simp at hb; subst hb; exact ⟨_, rfl⟩) (fun b hb => hb) (fun b hb => by simp at hb; simp [hb])
    exact ⟨.tuple #[], _, I2, rfl, by simp [V.R, V.RL], GG⟩

end Go.Proofs.YtfncaghjfgnnhaaGreatDoor

namespace Go.Proofs.YtfncaghjfgnnhaaGreatDoor
open Go.RowKit
set_option maxRecDepth 100000

def noExt : CallF := fun _ _ _ => none
def noFz : FuncId → Bool := fun _ => false
theorem noExt_ok : CallOK Tryz.prog noExt := fun _ _ _ _ h => by cases h
theorem noExt_bodied : Bodied Tryz.prog noExt := fun _ _ _ _ h => by cases h
section
variable {β : Type _}
def normN (m : Nat) (k : Nat → β) : β := match m with
  | 0 => k 0
  | p + 1 => k (p + 1)
def normI (n : Int) (k : Int → β) : β := match n with
  | .ofNat m => normN m fun m => k (.ofNat m)
  | .negSucc m => normN m fun m => k (.negSucc m)
def norSt (l : List UInt8) (k : List UInt8 → β) : β := match l with
  | [] => k []
  | x :: t => norSt t fun t => k (x :: t)
def normB (b : Bool) (k : Bool → β) : β := match b with
  | true => k true
  | false => k false
mutual
def normV : V → (V → β) → β
  | .int a n, k => normI n fun n => k (.int a n)
  | .bool b, k => normB b fun b => k (.bool b)
  | .str s, k => norSt s fun s => k (.str s)
  | .nilp, k => k .nilp
  | .ptr b o, k => normN b fun b => normN o fun o => k (.ptr b o)
  | .sl b o n f, k => normN b fun b => normN o fun o => normN n fun n => normB f fun f => k (.sl b o n f)
  | .dsl n f cs, k => normN n fun n => normB f fun f => normVL cs fun cs => k (.dsl n f cs)
  | .dptr cs, k => normVL cs fun cs => k (.dptr cs)
  | .sld cs, k => normVL cs fun cs => k (.sld cs)
  | .slo cs, k => normVL cs fun cs => k (.slo cs)
  | .eptr b o r, k => normN b fun b => normN o fun o => normN r fun r => k (.eptr b o r)
  | .osl T n o cs, k => normN T fun T => normN n fun n => normB o fun o => normVL cs fun cs => k (.osl T n o cs)
  | .agg cs, k => normVL cs fun cs => k (.agg cs)
  | .tup cs, k => normVL cs fun cs => k (.tup cs)
  | .fn f cs, k => normVL cs fun cs => k (.fn f cs)
  | .box f cs, k => normVL cs fun cs => k (.box f cs)
  | .nilf, k => k .nilf
  | .lit u, k => k (.lit u)
  | .junk, k => k .junk
def normVL : List V → (List V → β) → β
  | [], k => k []
  | x :: t, k => normV x fun x => normVL t fun t => k (x :: t)
end
def normH (hp : Hp) (k : Hp → β) : β := match hp with
  | [] => k []
  | none :: t => normH t fun t => k (none :: t)
  | some (cs, ty) :: t => normVL cs fun cs => normN ty fun ty => normH t fun t => k (some (cs, ty) :: t)
def normW (l : List Nat) (k : List Nat → β) : β := match l with
  | [] => k []
  | x :: t => normN x fun x => normW t fun t => k (x :: t)
def normR (r : Ret) (k : Ret → β) : β := normV r.v fun v => normH r.hp fun h => normW r.wr fun w => k ⟨v, h, w⟩
theorem normN_eq (m : Nat) (k : Nat → β) : normN m k = k m := by cases m <;> rfl
theorem normI_eq (n : Int) (k : Int → β) : normI n k = k n := by cases n <;> simp only [normI, normN_eq]
theorem norSt_eq : ∀ (l : List UInt8) (k : List UInt8 → β), norSt l k = k l
  | [], _ => rfl
  | x :: t, k => by unfold norSt; rw [norSt_eq t]
theorem normB_eq (b : Bool) (k : Bool → β) : normB b k = k b := by cases b <;> rfl
mutual
theorem normV_eq : ∀ (v : V) (k : V → β), normV v k = k v
  | .int a n, k => by simp only [normV, normI_eq]
  | .bool b, k => by simp only [normV, normB_eq]
  | .str s, k => by simp only [normV, norSt_eq]
  | .nilp, k => rfl
  | .ptr b o, k => by simp only [normV, normN_eq]
  | .sl b o n f, k => by simp only [normV, normN_eq, normB_eq]
  | .dsl n f cs, k => by simp only [normV, normN_eq, normB_eq, normVL_eq cs]
  | .dptr cs, k => by simp only [normV, normVL_eq cs]
  | .sld cs, k => by simp only [normV, normVL_eq cs]
  | .slo cs, k => by simp only [normV, normVL_eq cs]
  | .eptr b o r, k => by simp only [normV, normN_eq]
  | .osl T n o cs, k => by simp only [normV, normN_eq, normB_eq, normVL_eq cs]
  | .agg cs, k => by simp only [normV, normVL_eq cs]
  | .tup cs, k => by simp only [normV, normVL_eq cs]
  | .fn f cs, k => by simp only [normV, normVL_eq cs]
  | .box f cs, k => by simp only [normV, normVL_eq cs]
  | .nilf, k => rfl
  | .lit u, k => rfl
  | .junk, k => rfl
theorem normVL_eq : ∀ (l : List V) (k : List V → β), normVL l k = k l
  | [], k => rfl
  | x :: t, k => by simp only [normVL, normV_eq x, normVL_eq t]
end
theorem normH_eq : ∀ (hp : Hp) (k : Hp → β), normH hp k = k hp
  | [], _ => rfl
  | none :: t, k => by unfold normH; rw [normH_eq t]
  | some (cs, ty) :: t, k => by unfold normH; rw [normVL_eq, normN_eq, normH_eq t]
theorem normW_eq : ∀ (l : List Nat) (k : List Nat → β), normW l k = k l
  | [], _ => rfl
  | x :: t, k => by unfold normW; rw [normN_eq, normW_eq t]
theorem normR_eq (r : Ret) (k : Ret → β) : normR r k = k r := by unfold normR; rw [normV_eq, normH_eq, normW_eq]
end

noncomputable def deepN (f : FuncId) (vs : List V) (hp : Hp) : Option Ret := match deepC Tryz.prog noExt 1000 noFz 60 f vs hp with
  | some r => normR r fun r => some r
  | none => none
theorem deepN_ok {f : FuncId} {vs : List V} {hp : Hp} {r : Ret} (h : deepN f vs hp = some r) : FnOK Tryz.prog f vs hp r := by
  unfold deepN at h
  split at h
  · rename_i r' hr; rw [normR_eq] at h; cases h; exact (deepC_ok follows named noExt_bodied noExt_ok _).1 _ _ _ _ hr
  · cases h

end Go.Proofs.YtfncaghjfgnnhaaGreatDoor

namespace Go.Proofs.YtfncaghjfgnnhaaGreatDoor
open Go.RowKit
set_option maxRecDepth 100000

theorem FnOK.dead {P : Program} {f : FuncId} {vs : List V} {hp : Hp} {r : Ret} (h : FnOK P f vs hp r) (hv : V.refs r.v = []) :
    FnOK P f vs hp ⟨r.v, List.replicate hp.length none, List.range hp.length⟩ := by
  obtain ⟨ht, hmain⟩ := h
  have hno : ∀ b blk, (List.replicate hp.length (none : Option Blk))[b]? = some (some blk) → False := fun b blk h => by
    rw [List.getElem?_replicate] at h; split at h <;> cases h
  refine ⟨⟨by simp, fun b hb hn => absurd (List.mem_range.2 hb) hn, fun b hb => List.mem_range.1 hb, fun b hb ⟨blk, hal⟩ => (hno b blk hal).elim⟩, fun I w μ vals hvals pre hdom => ?_⟩
  have pre' : Pre P I μ w hp (List.range hp.length) r.hp.length := ⟨pre.ilt, pre.holds, pre.inj, fun b h1 _ => by
    cases hb : μ b with
    | none => rfl
    | some g => have := hdom b g hb; omega⟩
  refine (hmain I w μ vals hvals pre' hdom).mono fun e w' ⟨val, μ', I', he, hR, G⟩ => ⟨val, μ, I', he, ?_, ?_⟩
  · obtain ⟨_, _, e2, h2, _⟩ := (RL_nomu [r.v] [val] (by simp [V.refsL, hv]) ⟨val, [], rfl, hR, rfl⟩ : V.RL P I' noMu w' [r.v] [val])
    cases e2
    exact h2.keep (.refl w' (fun _ => False)) (.refl _) (fun b g hb => by cases hb)
  · refine ⟨G.isub, fun k hk => ?_, G.evo.mono fun k ⟨b, hb, hg⟩ => ⟨b, List.mem_range.2 (ht.wrb b hb), hg⟩, .refl _, fun b g h => .inl h, fun _ _ _ => rfl, fun b hb blk h => (hno b blk h).elim, fun b hb blk h => (hno b blk h).elim, fun b c b1 b2 g hne hb hc h1 => (hno b b1 h1).elim⟩
    rcases G.igrow k hk with h | h | ⟨c, h1, h2, h3⟩
    · exact .inl h
    · exact .inr (.inl h)
    · exact .inr (.inr ⟨c, List.mem_range.2 (ht.wrb c h1), h2, h3⟩)

theorem dead_TL {E : Env} (hm : E.P.follows .mixedOrders = true) (hn : Named E.P) {mode : Nat} {f : FuncId} {vs : List V} {hp : Hp} {v : V} {t : T Ret} (e : fnT E mode f vs hp = t) (hv : V.refs v = []) (h : t.WP (·.v = v)) : FnOK E.P f vs hp ⟨v, List.replicate hp.length none, List.range hp.length⟩ := by
  subst e
  obtain ⟨r', h1, rfl⟩ := fnT_ok hm hn h
  exact h1.dead hv

end Go.Proofs.YtfncaghjfgnnhaaGreatDoor

namespace Go.Proofs.YtfncaghjfgnnhaaGreatDoor
open Go.RowKit
set_option maxRecDepth 100000

abbrev fQuoted : Nat := 53
abbrev fNewRep : Nat := 81
abbrev fReplace : Nat := 82
abbrev fByteRep : Nat := 213
abbrev tRep : Nat := 116
abbrev tByteRep : Nat := 157
abbrev tPByteRep : Nat := 158
def oldB : Option Blk := some ([.sld [], .str [34], .str [92, 34], .str [92], .str [92, 92]], 9)
def strs4 : Option Blk := some ([.str [34], .str [92, 34], .str [92], .str [92, 92]], 9)
def nilS : V := .lit (.slice none 0 0)
def repL (a b c : V) : List V := List.replicate 34 nilS ++ [a] ++ List.replicate 57 nilS ++ [b] ++ List.replicate 163 nilS ++ [c]
def repB (k : Nat) : Option Blk := some (repL (.sl k 0 2 false) (.sl (k + 1) 0 2 false) (.sl (k + 2) 0 2 false), tByteRep)
def s34 : Option Blk := some ([.sld [.int .u8 92, .int .u8 34]], 5)
def s92 : Option Blk := some ([.sld [.int .u8 92, .int .u8 92]], 5)
def trB : Option Blk := some ([.str [92], .str [34]], 9)

set_option maxRecDepth 100000 in
theorem newRep_ok : FnOK Tryz.prog fNewRep [.sl 0 0 4 true] [strs4] ⟨.ptr 1 0, [strs4, some ([.int .u32 0, .int .i32 0, .int .u32 0, .lit .nilIface, .sl 2 0 4 false], tRep), oldB], []⟩ := deepN_ok (by kernel_rfl)
set_option maxRecDepth 100000 in
theorem build_ok : FnOK Tryz.prog fBuildOnce [.ptr 0 0] [some ([.int .u32 0, .int .i32 1, .int .u32 0, .lit .nilIface, .sl 1 0 4 false], tRep), oldB] ⟨.tup [], [some ([.int .u32 0, .int .i32 1, .int .u32 0, .box (.iface tPByteRep) [.ptr 2 0], .dsl 0 true []], tRep), oldB, repB 3, s34, s92, trB], [0]⟩ := deepN_ok (by kernel_rfl)
theorem do_ok : FnOK Tryz.prog fDo [.ptr 0 0, .box (.bound fBuildOnce 1) [.ptr 0 0]] [some ([.int .u32 0, .int .i32 0, .int .u32 0, .lit .nilIface, .sl 1 0 4 false], tRep), oldB] ⟨.tup [], [some ([.int .u32 1, .int .i32 0, .int .u32 0, .box (.iface tPByteRep) [.ptr 2 0], .dsl 0 true []], tRep), oldB, repB 3, s34, s92, trB], [0, 0]⟩ :=
  FnOK.once rfl rfl rfl build_ok

theorem replaceIs : MethodIs Tryz.prog tPByteRep "Replace" fByteRep := fun v args w => by kernel_rfl

def ByteRep (g : List UInt8 → List UInt8) (n : Nat) : Prop := ∀ t : List UInt8, t.length ≤ n → FnOK Tryz.prog fByteRep [.ptr 0 0, .str t] [repB 1, s34, s92, trB] ⟨.str (g t), [repB 1, s34, s92, trB], []⟩

noncomputable def resRep (g : List UInt8 → List UInt8) : ResT := fun f vs hp => match vs with
  | [.sl 0 0 4 true] => bif Nat.beq f fNewRep then some ⟨(), fun _ => ⟨.ptr 1 0, [strs4, some ([.int .u32 0, .int .i32 0, .int .u32 0, .lit .nilIface, .sl 2 0 4 false], tRep), oldB], []⟩⟩ else none
  | [.ptr 0 0, .box _ _] => bif Nat.beq f fDo then some ⟨(), fun _ => ⟨.tup [], [some ([.int .u32 1, .int .i32 0, .int .u32 0, .box (.iface tPByteRep) [.ptr 2 0], .dsl 0 true []], tRep), oldB, repB 3, s34, s92, trB], [0, 0]⟩⟩ else none
  | [.ptr 0 0, .str t] => bif Nat.beq f fByteRep then some ⟨g t, fun y => ⟨.str y, [repB 1, s34, s92, trB], []⟩⟩
      else bif Nat.beq f fReplace then some ⟨g t, fun y => ⟨.str y, [none, none], [0, 1]⟩⟩ else none
  | _ => none
noncomputable def ERep (g : List UInt8 → List UInt8) : Env := { P := Tryz.prog, vw := fun _ _ _ => none, res := resRep g, mt := [(tPByteRep, "Replace", fByteRep)] }

set_option maxRecDepth 100000 in
theorem replaceT (g : List UInt8 → List UInt8) (t : List UInt8) : fnT (ERep g) 2 fReplace [.ptr 0 0, .str t] [some ([.int .u32 0, .int .i32 0, .int .u32 0, .lit .nilIface, .sl 1 0 4 false], tRep), oldB] =
 T.bind PUnit.unit fun y0 =>
 T.need
 [FnOK (Env.P (ERep g)) 102 [V.ptr 0 0, V.box (BK.bound 103 1) [V.ptr 0 0]]
 [some ([V.int IntKind.u32 (0 : Int), V.int IntKind.i32 (0 : Int), V.int IntKind.u32 (0 : Int), V.lit Value.nilIface, V.sl 1 0 4 false], 116),
 some ([V.sld [], V.str [34], V.str [92, 34], V.str [92], V.str [92, 92]], 9)]
 (Ret.mk (V.tup [])
 [some ([V.int IntKind.u32 (1 : Int), V.int IntKind.i32 (0 : Int), V.int IntKind.u32 (0 : Int), V.box (BK.iface 158) [V.ptr 2 0], V.dsl 0 true []], 116),
 some ([V.sld [], V.str [34], V.str [92, 34], V.str [92], V.str [92, 92]], 9),
 (repB 3),
 some ([V.sld [V.int IntKind.u8 (92 : Int), V.int IntKind.u8 (34 : Int)]], 5), some ([V.sld [V.int IntKind.u8 (92 : Int), V.int IntKind.u8 (92 : Int)]], 5),
 some ([V.str [92], V.str [34]], 9)]
 [0, 0])]
 (T.need [158 = 158, "Replace" = "Replace", MethodIs (Env.P (ERep g)) 158 "Replace" 213]
 (T.bind (g t) fun y1 =>
 T.need
 [FnOK (Env.P (ERep g)) 213 [V.ptr 0 0, V.str t]
 [(repB 1),
 some ([V.sld [V.int IntKind.u8 (92 : Int), V.int IntKind.u8 (34 : Int)]], 5), some ([V.sld [V.int IntKind.u8 (92 : Int), V.int IntKind.u8 (92 : Int)]], 5),
 some ([V.str [92], V.str [34]], 9)]
 (Ret.mk (V.str y1)
 [(repB 1),
 some ([V.sld [V.int IntKind.u8 (92 : Int), V.int IntKind.u8 (34 : Int)]], 5), some ([V.sld [V.int IntKind.u8 (92 : Int), V.int IntKind.u8 (92 : Int)]], 5),
 some ([V.str [92], V.str [34]], 9)]
 [])]
 (T.done
 (Ret.mk (V.str y1)
 [some ([V.int IntKind.u32 (1 : Int), V.int IntKind.i32 (0 : Int), V.int IntKind.u32 (0 : Int), V.box (BK.iface 158) [V.ptr 2 0], V.dsl 0 true []], 116),
 some ([V.sld [], V.str [34], V.str [92, 34], V.str [92], V.str [92, 92]], 9),
 some
 ([V.sld
 [V.lit (Value.slice none 0 0), V.lit (Value.slice none 0 0), V.lit (Value.slice none 0 0), V.lit (Value.slice none 0 0),
 V.lit (Value.slice none 0 0), V.lit (Value.slice none 0 0), V.lit (Value.slice none 0 0), V.lit (Value.slice none 0 0),
 V.lit (Value.slice none 0 0), V.lit (Value.slice none 0 0), V.lit (Value.slice none 0 0), V.lit (Value.slice none 0 0),
 V.lit (Value.slice none 0 0), V.lit (Value.slice none 0 0), V.lit (Value.slice none 0 0), V.lit (Value.slice none 0 0),
 V.lit (Value.slice none 0 0), V.lit (Value.slice none 0 0), V.lit (Value.slice none 0 0), V.lit (Value.slice none 0 0),
 V.lit (Value.slice none 0 0), V.lit (Value.slice none 0 0), V.lit (Value.slice none 0 0), V.lit (Value.slice none 0 0),
 V.lit (Value.slice none 0 0), V.lit (Value.slice none 0 0), V.lit (Value.slice none 0 0), V.lit (Value.slice none 0 0),
 V.lit (Value.slice none 0 0), V.lit (Value.slice none 0 0), V.lit (Value.slice none 0 0), V.lit (Value.slice none 0 0),
 V.lit (Value.slice none 0 0), V.lit (Value.slice none 0 0), V.dsl 2 false [V.int IntKind.u8 (92 : Int), V.int IntKind.u8 (34 : Int)],
 V.lit (Value.slice none 0 0), V.lit (Value.slice none 0 0), V.lit (Value.slice none 0 0), V.lit (Value.slice none 0 0),
 V.lit (Value.slice none 0 0), V.lit (Value.slice none 0 0), V.lit (Value.slice none 0 0), V.lit (Value.slice none 0 0),
 V.lit (Value.slice none 0 0), V.lit (Value.slice none 0 0), V.lit (Value.slice none 0 0), V.lit (Value.slice none 0 0),
 V.lit (Value.slice none 0 0), V.lit (Value.slice none 0 0), V.lit (Value.slice none 0 0), V.lit (Value.slice none 0 0),
 V.lit (Value.slice none 0 0), V.lit (Value.slice none 0 0), V.lit (Value.slice none 0 0), V.lit (Value.slice none 0 0),
 V.lit (Value.slice none 0 0), V.lit (Value.slice none 0 0), V.lit (Value.slice none 0 0), V.lit (Value.slice none 0 0),
 V.lit (Value.slice none 0 0), V.lit (Value.slice none 0 0), V.lit (Value.slice none 0 0), V.lit (Value.slice none 0 0),
 V.lit (Value.slice none 0 0), V.lit (Value.slice none 0 0), V.lit (Value.slice none 0 0), V.lit (Value.slice none 0 0),
 V.lit (Value.slice none 0 0), V.lit (Value.slice none 0 0), V.lit (Value.slice none 0 0), V.lit (Value.slice none 0 0),
 V.lit (Value.slice none 0 0), V.lit (Value.slice none 0 0), V.lit (Value.slice none 0 0), V.lit (Value.slice none 0 0),
 V.lit (Value.slice none 0 0), V.lit (Value.slice none 0 0), V.lit (Value.slice none 0 0), V.lit (Value.slice none 0 0),
 V.lit (Value.slice none 0 0), V.lit (Value.slice none 0 0), V.lit (Value.slice none 0 0), V.lit (Value.slice none 0 0),
 V.lit (Value.slice none 0 0), V.lit (Value.slice none 0 0), V.lit (Value.slice none 0 0), V.lit (Value.slice none 0 0),
 V.lit (Value.slice none 0 0), V.lit (Value.slice none 0 0), V.lit (Value.slice none 0 0), V.lit (Value.slice none 0 0),
 V.lit (Value.slice none 0 0), V.dsl 2 false [V.int IntKind.u8 (92 : Int), V.int IntKind.u8 (92 : Int)], V.lit (Value.slice none 0 0),
 V.lit (Value.slice none 0 0), V.lit (Value.slice none 0 0), V.lit (Value.slice none 0 0), V.lit (Value.slice none 0 0),
 V.lit (Value.slice none 0 0), V.lit (Value.slice none 0 0), V.lit (Value.slice none 0 0), V.lit (Value.slice none 0 0),
 V.lit (Value.slice none 0 0), V.lit (Value.slice none 0 0), V.lit (Value.slice none 0 0), V.lit (Value.slice none 0 0),
 V.lit (Value.slice none 0 0), V.lit (Value.slice none 0 0), V.lit (Value.slice none 0 0), V.lit (Value.slice none 0 0),
 V.lit (Value.slice none 0 0), V.lit (Value.slice none 0 0), V.lit (Value.slice none 0 0), V.lit (Value.slice none 0 0),
 V.lit (Value.slice none 0 0), V.lit (Value.slice none 0 0), V.lit (Value.slice none 0 0), V.lit (Value.slice none 0 0),
 V.lit (Value.slice none 0 0), V.lit (Value.slice none 0 0), V.lit (Value.slice none 0 0), V.lit (Value.slice none 0 0),
 V.lit (Value.slice none 0 0), V.lit (Value.slice none 0 0), V.lit (Value.slice none 0 0), V.lit (Value.slice none 0 0),
 V.lit (Value.slice none 0 0), V.lit (Value.slice none 0 0), V.lit (Value.slice none 0 0), V.lit (Value.slice none 0 0),
 V.lit (Value.slice none 0 0), V.lit (Value.slice none 0 0), V.lit (Value.slice none 0 0), V.lit (Value.slice none 0 0),
 V.lit (Value.slice none 0 0), V.lit (Value.slice none 0 0), V.lit (Value.slice none 0 0), V.lit (Value.slice none 0 0),
 V.lit (Value.slice none 0 0), V.lit (Value.slice none 0 0), V.lit (Value.slice none 0 0), V.lit (Value.slice none 0 0),
 V.lit (Value.slice none 0 0), V.lit (Value.slice none 0 0), V.lit (Value.slice none 0 0), V.lit (Value.slice none 0 0),
 V.lit (Value.slice none 0 0), V.lit (Value.slice none 0 0), V.lit (Value.slice none 0 0), V.lit (Value.slice none 0 0),
 V.lit (Value.slice none 0 0), V.lit (Value.slice none 0 0), V.lit (Value.slice none 0 0), V.lit (Value.slice none 0 0),
 V.lit (Value.slice none 0 0), V.lit (Value.slice none 0 0), V.lit (Value.slice none 0 0), V.lit (Value.slice none 0 0),
 V.lit (Value.slice none 0 0), V.lit (Value.slice none 0 0), V.lit (Value.slice none 0 0), V.lit (Value.slice none 0 0),
 V.lit (Value.slice none 0 0), V.lit (Value.slice none 0 0), V.lit (Value.slice none 0 0), V.lit (Value.slice none 0 0),
 V.lit (Value.slice none 0 0), V.lit (Value.slice none 0 0), V.lit (Value.slice none 0 0), V.lit (Value.slice none 0 0),
 V.lit (Value.slice none 0 0), V.lit (Value.slice none 0 0), V.lit (Value.slice none 0 0), V.lit (Value.slice none 0 0),
 V.lit (Value.slice none 0 0), V.lit (Value.slice none 0 0), V.lit (Value.slice none 0 0), V.lit (Value.slice none 0 0),
 V.lit (Value.slice none 0 0), V.lit (Value.slice none 0 0), V.lit (Value.slice none 0 0), V.lit (Value.slice none 0 0),
 V.lit (Value.slice none 0 0), V.lit (Value.slice none 0 0), V.lit (Value.slice none 0 0), V.lit (Value.slice none 0 0),
 V.lit (Value.slice none 0 0), V.lit (Value.slice none 0 0), V.lit (Value.slice none 0 0), V.lit (Value.slice none 0 0),
 V.lit (Value.slice none 0 0), V.lit (Value.slice none 0 0), V.lit (Value.slice none 0 0), V.lit (Value.slice none 0 0),
 V.lit (Value.slice none 0 0), V.lit (Value.slice none 0 0), V.lit (Value.slice none 0 0), V.lit (Value.slice none 0 0),
 V.lit (Value.slice none 0 0), V.lit (Value.slice none 0 0), V.lit (Value.slice none 0 0), V.lit (Value.slice none 0 0),
 V.lit (Value.slice none 0 0), V.lit (Value.slice none 0 0), V.lit (Value.slice none 0 0), V.lit (Value.slice none 0 0),
 V.lit (Value.slice none 0 0), V.lit (Value.slice none 0 0), V.lit (Value.slice none 0 0), V.lit (Value.slice none 0 0),
 V.lit (Value.slice none 0 0), V.lit (Value.slice none 0 0), V.lit (Value.slice none 0 0), V.lit (Value.slice none 0 0),
 V.lit (Value.slice none 0 0), V.lit (Value.slice none 0 0), V.lit (Value.slice none 0 0), V.lit (Value.slice none 0 0),
 V.lit (Value.slice none 0 0), V.lit (Value.slice none 0 0), V.lit (Value.slice none 0 0), V.lit (Value.slice none 0 0),
 V.lit (Value.slice none 0 0), V.lit (Value.slice none 0 0), V.lit (Value.slice none 0 0), V.lit (Value.slice none 0 0),
 V.lit (Value.slice none 0 0), V.lit (Value.slice none 0 0), V.lit (Value.slice none 0 0), V.lit (Value.slice none 0 0),
 V.lit (Value.slice none 0 0), V.lit (Value.slice none 0 0), V.lit (Value.slice none 0 0), V.lit (Value.slice none 0 0),
 V.lit (Value.slice none 0 0), V.lit (Value.slice none 0 0), V.lit (Value.slice none 0 0), V.lit (Value.slice none 0 0),
 V.lit (Value.slice none 0 0), V.lit (Value.slice none 0 0), V.lit (Value.slice none 0 0), V.lit (Value.slice none 0 0),
 V.lit (Value.slice none 0 0), V.lit (Value.slice none 0 0), V.lit (Value.slice none 0 0), V.lit (Value.slice none 0 0),
 V.lit (Value.slice none 0 0), V.lit (Value.slice none 0 0), V.lit (Value.slice none 0 0), V.lit (Value.slice none 0 0),
 V.lit (Value.slice none 0 0), V.lit (Value.slice none 0 0), V.lit (Value.slice none 0 0), V.lit (Value.slice none 0 0),
 V.lit (Value.slice none 0 0), V.lit (Value.slice none 0 0), V.dsl 2 false [V.str [92], V.str [34]]]],
 157)]
 [0])))) := (T.force_eq _).symm.trans (by kernel_rfl)
set_option maxRecDepth 100000 in
theorem quotedT (g : List UInt8 → List UInt8) (t : List UInt8) : fnT (ERep g) 0 fQuoted [.str t] [] =
 T.bind PUnit.unit fun y0 =>
 T.need
 [FnOK (Env.P (ERep g)) 81 [V.sl 0 0 4 true] [some ([V.str [34], V.str [92, 34], V.str [92], V.str [92, 92]], 9)]
 (Ret.mk (V.ptr 1 0)
 [some ([V.str [34], V.str [92, 34], V.str [92], V.str [92, 92]], 9),
 some ([V.int IntKind.u32 (0 : Int), V.int IntKind.i32 (0 : Int), V.int IntKind.u32 (0 : Int), V.lit Value.nilIface, V.sl 2 0 4 false], 116),
 some ([V.sld [], V.str [34], V.str [92, 34], V.str [92], V.str [92, 92]], 9)]
 [])]
 (T.bind (g t) fun y1 =>
 T.need
 [FnOK (Env.P (ERep g)) 82 [V.ptr 0 0, V.str t]
 [some ([V.int IntKind.u32 (0 : Int), V.int IntKind.i32 (0 : Int), V.int IntKind.u32 (0 : Int), V.lit Value.nilIface, V.sl 1 0 4 false], 116),
 some ([V.sld [], V.str [34], V.str [92, 34], V.str [92], V.str [92, 92]], 9)]
 (Ret.mk (V.str y1) [none, none] [0, 1])]
 (T.need [1 + List.length y1 ≤ 4611686018427387904]
 (T.need [List.length ([(34 : UInt8)] ++ y1) + 1 ≤ 4611686018427387904] (T.done (Ret.mk (V.str ([(34 : UInt8)] ++ y1 ++ [(34 : UInt8)])) [] []))))) := (T.force_eq _).symm.trans (by kernel_rfl)

end Go.Proofs.YtfncaghjfgnnhaaGreatDoor

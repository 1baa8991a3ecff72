/-
  Layouts of library functions at this program (printed by tools/lays.py).
  The library's IndexByte, Atoi and Sort as contracts of calls.
  The program's reader of values: objects.
  The program's reader of values: the parts of an object.
  The program's reader of values: objects.
  The program's reader of values: the whole.
  The reference's reader of values: the whole.
  Right values can be printed by the program, and are short.
  The source of choices that some bytes make.
  The program's PrintJson; values that are drawn.
-/
import Derived.Test.YtfncaghjfgnnhaaGreatDoorPyAh
import Derived.Shelf.LaysC
import Derived.Shelf.Sort.Plain
import Derived.Shelf.Small.Strs
import Derived.Shelf.Strconv.AtoiAll
import Derived.Test.YtfncaghjfgnnhaaGreatDoorRows
import Derived.Sort.OwnSorted
import Derived.Shelf.Slices.In.SortNone
namespace Go.Proofs
open Go.Shelf
def Tryz.lays172_ren : Go.Shelf.Ren := ⟨fun | 172 => 111 | 244 => 134 | 245 => 135 | 247 => 153 | 279 => 154 | 280 => 155 | 281 => 156 | 282 => 157 | 287 => 167 | 316 => 168 | 171 => 54 | 205 => 169 | 321 => 179 | 322 => 180 | 243 => 83 | 246 => 104 | 283 => 116 | 284 => 117 | 285 => 118 | 286 => 119 | 129 => 133 | 317 => 143 | 318 => 144 | 319 => 145 | 320 => 146 | 337 => 164 | 338 => 165 | n => n, fun | 9 => 9 | 3 => 3 | 75 => 89 | 76 => 90 | 4 => 4 | 5 => 5 | 167 => 166 | 37 => 31 | 0 => 0 | 85 => 167 | 2 => 2 | 168 => 169 | 53 => 127 | 175 => 188 | 46 => 122 | 210 => 191 | 127 => 119 | 145 => 208 | 143 => 206 | 21 => 21 | 171 => 126 | 173 => 130 | 212 => 159 | 51 => 104 | 20 => 20 | 213 => 160 | 232 => 203 | 233 => 204 | 80 => 51 | n => n, fun | 15 => 2 | 16 => 3 | 17 => 0 | 18 => 4 | 19 => 5 | n => n⟩
set_option maxRecDepth 100000 in
theorem Tryz.lays172 : Go.Proofs.LaysC.n172 Tryz.prog Tryz.lays172_ren where
 mixed := by kernel_rfl
 f129 := Tryz.func133.trans (congrArg some (by kernel_rfl))
 f171 := Tryz.func54.trans (congrArg some (by kernel_rfl))
 f172 := Tryz.func111.trans (congrArg some (by kernel_rfl))
 f205 := Tryz.func169.trans (congrArg some (by kernel_rfl))
 f243 := Tryz.func83.trans (congrArg some (by kernel_rfl))
 f244 := Tryz.func134.trans (congrArg some (by kernel_rfl))
 f245 := Tryz.func135.trans (congrArg some (by kernel_rfl))
 f246 := Tryz.func104.trans (congrArg some (by kernel_rfl))
 f247 := Tryz.func153.trans (congrArg some (by kernel_rfl))
 f279 := Tryz.func154.trans (congrArg some (by kernel_rfl))
 f280 := Tryz.func155.trans (congrArg some (by kernel_rfl))
 f281 := Tryz.func156.trans (congrArg some (by kernel_rfl))
 f282 := Tryz.func157.trans (congrArg some (by kernel_rfl))
 f283 := Tryz.func116.trans (congrArg some (by kernel_rfl))
 f284 := Tryz.func117.trans (congrArg some (by kernel_rfl))
 f285 := Tryz.func118.trans (congrArg some (by kernel_rfl))
 f286 := Tryz.func119.trans (congrArg some (by kernel_rfl))
 f287 := Tryz.func167.trans (congrArg some (by kernel_rfl))
 f316 := Tryz.func168.trans (congrArg some (by kernel_rfl))
 f317 := Tryz.func143.trans (congrArg some (by kernel_rfl))
 f318 := Tryz.func144.trans (congrArg some (by kernel_rfl))
 f319 := Tryz.func145.trans (congrArg some (by kernel_rfl))
 f320 := Tryz.func146.trans (congrArg some (by kernel_rfl))
 f321 := Tryz.func179.trans (congrArg some (by kernel_rfl))
 f322 := Tryz.func180.trans (congrArg some (by kernel_rfl))
 f337 := Tryz.func164.trans (congrArg some (by kernel_rfl))
 f338 := Tryz.func165.trans (congrArg some (by kernel_rfl))
 t0 := Tryz.underlying0
 a0 := Tryz.isAgg0
 z0 := Tryz.sizeOf0
 v0 := Tryz.zeroValue0
 t2 := Tryz.underlying2
 a2 := Tryz.isAgg2
 z2 := Tryz.sizeOf2
 v2 := Tryz.zeroValue2
 t3 := Tryz.underlying3
 a3 := Tryz.isAgg3
 z3 := Tryz.sizeOf3
 v3 := Tryz.zeroValue3
 t4 := Tryz.underlying4
 a4 := Tryz.isAgg4
 z4 := Tryz.sizeOf4
 v4 := Tryz.zeroValue4
 t5 := Tryz.underlying5
 a5 := Tryz.isAgg5
 z5 := Tryz.sizeOf5
 v5 := Tryz.zeroValue5
 t9 := Tryz.underlying9
 a9 := Tryz.isAgg9
 z9 := Tryz.sizeOf9
 v9 := Tryz.zeroValue9
 t20 := Tryz.underlying20
 a20 := Tryz.isAgg20
 z20 := Tryz.sizeOf20
 v20 := Tryz.zeroValue20
 t21 := Tryz.underlying21
 a21 := Tryz.isAgg21
 z21 := Tryz.sizeOf21
 v21 := Tryz.zeroValue21
 t37 := Tryz.underlying31
 a37 := Tryz.isAgg31
 z37 := Tryz.sizeOf31
 v37 := Tryz.zeroValue31
 t46 := Tryz.underlying122
 a46 := Tryz.isAgg122
 z46 := Tryz.sizeOf122
 v46 := Tryz.zeroValue122
 t51 := Tryz.underlying104
 a51 := Tryz.isAgg104
 z51 := Tryz.sizeOf104
 v51 := Tryz.zeroValue104
 t53 := Tryz.underlying127
 a53 := Tryz.isAgg127
 z53 := Tryz.sizeOf127
 v53 := Tryz.zeroValue127
 t75 := Tryz.underlying89
 a75 := Tryz.isAgg89
 z75 := Tryz.sizeOf89
 v75 := Tryz.zeroValue89
 t76 := Tryz.underlying90
 a76 := Tryz.isAgg90
 z76 := Tryz.sizeOf90
 v76 := Tryz.zeroValue90
 t85 := Tryz.underlying167
 a85 := Tryz.isAgg167
 z85 := Tryz.sizeOf167
 v85 := Tryz.zeroValue167
 t127 := Tryz.underlying119
 a127 := Tryz.isAgg119
 z127 := Tryz.sizeOf119
 v127 := Tryz.zeroValue119
 t143 := Tryz.underlying206
 a143 := Tryz.isAgg206
 z143 := Tryz.sizeOf206
 v143 := Tryz.zeroValue206
 t145 := Tryz.underlying208
 a145 := Tryz.isAgg208
 z145 := Tryz.sizeOf208
 v145 := Tryz.zeroValue208
 t167 := Tryz.underlying166
 a167 := Tryz.isAgg166
 z167 := Tryz.sizeOf166
 v167 := Tryz.zeroValue166
 t168 := Tryz.underlying169
 a168 := Tryz.isAgg169
 z168 := Tryz.sizeOf169
 v168 := Tryz.zeroValue169
 t171 := Tryz.underlying126
 a171 := Tryz.isAgg126
 z171 := Tryz.sizeOf126
 v171 := Tryz.zeroValue126
 t173 := Tryz.underlying130
 a173 := Tryz.isAgg130
 z173 := Tryz.sizeOf130
 v173 := Tryz.zeroValue130
 t175 := Tryz.underlying188
 a175 := Tryz.isAgg188
 z175 := Tryz.sizeOf188
 v175 := Tryz.zeroValue188
 t210 := Tryz.underlying191
 a210 := Tryz.isAgg191
 z210 := Tryz.sizeOf191
 v210 := Tryz.zeroValue191
 t212 := Tryz.underlying159
 a212 := Tryz.isAgg159
 z212 := Tryz.sizeOf159
 v212 := Tryz.zeroValue159
 t213 := Tryz.underlying160
 a213 := Tryz.isAgg160
 z213 := Tryz.sizeOf160
 t232 := Tryz.underlying203
 a232 := Tryz.isAgg203
 z232 := Tryz.sizeOf203
 v232 := Tryz.zeroValue203
 t233 := Tryz.underlying204
 a233 := Tryz.isAgg204
 z233 := Tryz.sizeOf204
 v233 := Tryz.zeroValue204
 g15 := by kernel_rfl
 g16 := by kernel_rfl
 g17 := by kernel_rfl
 g18 := by kernel_rfl
 g19 := by kernel_rfl
 t80 := Tryz.underlying51
 a80 := Tryz.isAgg51
 z80 := Tryz.sizeOf51
 v80 := Tryz.zeroValue51
 i0 := by kernel_rfl
 i2 := by kernel_rfl
 i3 := by kernel_rfl
 i4 := by kernel_rfl
 i5 := by kernel_rfl
 i9 := by kernel_rfl
 i20 := by kernel_rfl
 i21 := by kernel_rfl
 i37 := by kernel_rfl
 i46 := by kernel_rfl
 i51 := by kernel_rfl
 i53 := by kernel_rfl
 i75 := by kernel_rfl
 i76 := by kernel_rfl
 i80 := by kernel_rfl
 i85 := by kernel_rfl
 i127 := by kernel_rfl
 i143 := by kernel_rfl
 i145 := by kernel_rfl
 i167 := by kernel_rfl
 i168 := by kernel_rfl
 i171 := by kernel_rfl
 i173 := by kernel_rfl
 i175 := by kernel_rfl
 i210 := by kernel_rfl
 i212 := by kernel_rfl
 i232 := by kernel_rfl
 i233 := by kernel_rfl
 m15 := by kernel_rfl
 m16 := by kernel_rfl
 m17 := by kernel_rfl
 m18 := by kernel_rfl
 m19 := by kernel_rfl
 c0 := by kernel_rfl
 c2 := by kernel_rfl
 c3 := by kernel_rfl
 c4 := by kernel_rfl
 c5 := by kernel_rfl
 c9 := by kernel_rfl
 c20 := by kernel_rfl
 c21 := by kernel_rfl
 c37 := by kernel_rfl
 c46 := by kernel_rfl
 c51 := by kernel_rfl
 c53 := by kernel_rfl
 c75 := by kernel_rfl
 c76 := by kernel_rfl
 c80 := by kernel_rfl
 c85 := by kernel_rfl
 c127 := by kernel_rfl
 c143 := by kernel_rfl
 c145 := by kernel_rfl
 c167 := by kernel_rfl
 c168 := by kernel_rfl
 c171 := by kernel_rfl
 c173 := by kernel_rfl
 c175 := by kernel_rfl
 c210 := by kernel_rfl
 c212 := by kernel_rfl
 c213 := by kernel_rfl
 c232 := by kernel_rfl
 c233 := by kernel_rfl
def Tryz.lays137_ren : Go.Shelf.Ren := ⟨fun | 137 => 96 | 217 => 108 | 266 => 122 | n => n, fun | 9 => 9 | 5 => 5 | 3 => 3 | n => n, fun | n => n⟩
set_option maxRecDepth 100000 in
theorem Tryz.lays137 : Go.Proofs.Lays.n137 Tryz.prog Tryz.lays137_ren where
 mixed := by kernel_rfl
 f137 := Tryz.func96.trans (congrArg some (by kernel_rfl))
 f217 := Tryz.func108.trans (congrArg some (by kernel_rfl))
 f266 := Tryz.func122.trans (congrArg some (by kernel_rfl))
 t3 := Tryz.underlying3
 a3 := Tryz.isAgg3
 z3 := Tryz.sizeOf3
 v3 := Tryz.zeroValue3
 t5 := Tryz.underlying5
 a5 := Tryz.isAgg5
 z5 := Tryz.sizeOf5
 v5 := Tryz.zeroValue5
 t9 := Tryz.underlying9
 a9 := Tryz.isAgg9
 z9 := Tryz.sizeOf9
 v9 := Tryz.zeroValue9
def Tryz.lays190_ren : Go.Shelf.Ren := ⟨fun | 190 => 99 | 125 => 110 | 258 => 109 | 128 => 132 | 129 => 133 | 302 => 123 | 303 => 124 | 304 => 125 | 305 => 126 | 306 => 127 | 307 => 128 | 308 => 129 | 309 => 130 | 310 => 131 | 333 => 147 | 329 => 148 | 330 => 149 | 334 => 150 | 335 => 151 | 336 => 152 | 344 => 166 | n => n, fun | 31 => 22 | 9 => 9 | 3 => 3 | 46 => 122 | 0 => 0 | 51 => 104 | 53 => 127 | 4 => 4 | 183 => 137 | 182 => 136 | 131 => 56 | 5 => 5 | 218 => 161 | 222 => 54 | 228 => 186 | 229 => 37 | n => n, fun | n => n⟩
set_option maxRecDepth 100000 in
theorem Tryz.lays190 : Go.Proofs.Lays.n190 Tryz.prog Tryz.lays190_ren where
 mixed := by kernel_rfl
 f125 := Tryz.func110.trans (congrArg some (by kernel_rfl))
 f128 := Tryz.func132.trans (congrArg some (by kernel_rfl))
 f129 := Tryz.func133.trans (congrArg some (by kernel_rfl))
 f190 := Tryz.func99.trans (congrArg some (by kernel_rfl))
 f258 := Tryz.func109.trans (congrArg some (by kernel_rfl))
 f302 := Tryz.func123.trans (congrArg some (by kernel_rfl))
 f303 := Tryz.func124.trans (congrArg some (by kernel_rfl))
 f304 := Tryz.func125.trans (congrArg some (by kernel_rfl))
 f305 := Tryz.func126.trans (congrArg some (by kernel_rfl))
 f306 := Tryz.func127.trans (congrArg some (by kernel_rfl))
 f307 := Tryz.func128.trans (congrArg some (by kernel_rfl))
 f308 := Tryz.func129.trans (congrArg some (by kernel_rfl))
 f309 := Tryz.func130.trans (congrArg some (by kernel_rfl))
 f310 := Tryz.func131.trans (congrArg some (by kernel_rfl))
 f329 := Tryz.func148.trans (congrArg some (by kernel_rfl))
 f330 := Tryz.func149.trans (congrArg some (by kernel_rfl))
 f333 := Tryz.func147.trans (congrArg some (by kernel_rfl))
 f334 := Tryz.func150.trans (congrArg some (by kernel_rfl))
 f335 := Tryz.func151.trans (congrArg some (by kernel_rfl))
 f336 := Tryz.func152.trans (congrArg some (by kernel_rfl))
 f344 := Tryz.func166.trans (congrArg some (by kernel_rfl))
 t0 := Tryz.underlying0
 a0 := Tryz.isAgg0
 z0 := Tryz.sizeOf0
 v0 := Tryz.zeroValue0
 t3 := Tryz.underlying3
 a3 := Tryz.isAgg3
 z3 := Tryz.sizeOf3
 v3 := Tryz.zeroValue3
 t4 := Tryz.underlying4
 a4 := Tryz.isAgg4
 z4 := Tryz.sizeOf4
 v4 := Tryz.zeroValue4
 t5 := Tryz.underlying5
 a5 := Tryz.isAgg5
 z5 := Tryz.sizeOf5
 v5 := Tryz.zeroValue5
 t9 := Tryz.underlying9
 a9 := Tryz.isAgg9
 z9 := Tryz.sizeOf9
 v9 := Tryz.zeroValue9
 t31 := Tryz.underlying22
 a31 := Tryz.isAgg22
 z31 := Tryz.sizeOf22
 v31 := Tryz.zeroValue22
 t46 := Tryz.underlying122
 a46 := Tryz.isAgg122
 z46 := Tryz.sizeOf122
 v46 := Tryz.zeroValue122
 t51 := Tryz.underlying104
 a51 := Tryz.isAgg104
 z51 := Tryz.sizeOf104
 v51 := Tryz.zeroValue104
 t53 := Tryz.underlying127
 a53 := Tryz.isAgg127
 z53 := Tryz.sizeOf127
 v53 := Tryz.zeroValue127
 t131 := Tryz.underlying56
 a131 := Tryz.isAgg56
 z131 := Tryz.sizeOf56
 v131 := Tryz.zeroValue56
 t182 := Tryz.underlying136
 a182 := Tryz.isAgg136
 z182 := Tryz.sizeOf136
 v182 := Tryz.zeroValue136
 t183 := Tryz.underlying137
 a183 := Tryz.isAgg137
 z183 := Tryz.sizeOf137
 v183 := Tryz.zeroValue137
 t218 := Tryz.underlying161
 a218 := Tryz.isAgg161
 z218 := Tryz.sizeOf161
 v218 := Tryz.zeroValue161
 t222 := Tryz.underlying54
 a222 := Tryz.isAgg54
 z222 := Tryz.sizeOf54
 v222 := Tryz.zeroValue54
 t228 := Tryz.underlying186
 a228 := Tryz.isAgg186
 z228 := Tryz.sizeOf186
 v228 := Tryz.zeroValue186
 t229 := Tryz.underlying37
 a229 := Tryz.isAgg37
 z229 := Tryz.sizeOf37
 v229 := Tryz.zeroValue37
end Go.Proofs

namespace Go.Proofs.YtfncaghjfgnnhaaGreatDoor
open Go.RowKit
set_option maxRecDepth 100000
theorem below_grow {w w' : World} (h : Below w.heap.size w w') : w.grownBy w' none := ⟨h.os, h.tape, h.output, h.size, fun k hk _ => h.block k hk⟩
theorem idxB_ok : IdxB := by
 intro p c
 refine FnOK.ofCalls fun I w vals hv hI => ?_
 simp only [V.RL, V.R] at hv
 obtain ⟨u, us, h1, rfl, u2, us2, rfl, rfl, rfl⟩ := hv
 obtain rfl : vals = #[.string ⟨p.toArray⟩, .int .u8 (c.toNat : Nat)] := by cases vals; simp_all
 refine (Any.strings_IndexByte Tryz.lays137 ⟨p.toArray⟩ (c.toNat : Nat) w).mono ?_
 rintro e w' ⟨he, rfl⟩
 exact ⟨_, he, by simp only [V.R, idxB], ⟨rfl, rfl, rfl, Nat.le_refl _, fun _ _ _ => rfl⟩⟩
theorem atoi_ok : AtoiOK := by
 intro t ht
 have eS : Tryz.prog.globalNamed "strconv.ErrSyntax" = some 2 := by kernel_rfl
 have eR : Tryz.prog.globalNamed "strconv.ErrRange" = some 3 := by kernel_rfl
 unfold atoiRet atoiV
 cases ha : Lib.atoiAll t with
 | ok v =>
  refine FnOK.ofCalls fun I w vals hv hI => ?_
  simp only [V.RL, V.R] at hv
  obtain ⟨u, us, h1, rfl, rfl⟩ := hv
  obtain rfl : vals = #[.string ⟨t.toArray⟩] := by cases vals; simp_all
  refine (Any.strconv_Atoi_ok Tryz.lays172 ⟨t.toArray⟩ (by show t.toArray.size ≤ _; simp; omega) v ha w).mono ?_
  rintro e w' ⟨he, hw⟩
  refine ⟨_, he, ?_, ?_⟩
  ·simp only [V.R, V.RL]
   exact ⟨_, rfl, _, _, rfl, rfl, _, _, rfl, rfl, rfl⟩
  ·rcases hw with rfl | ⟨x, rfl⟩
   ·exact ⟨rfl, rfl, rfl, Nat.le_refl _, fun _ _ _ => rfl⟩
   ·exact below_grow (Lib.bytesWorld_below _ _ _)
 | range =>
  refine FnOK.ofCalls fun I w vals hv hI => ?_
  simp only [V.RL, V.R] at hv
  obtain ⟨u, us, h1, rfl, rfl⟩ := hv
  obtain rfl : vals = #[.string ⟨t.toArray⟩] := by cases vals; simp_all
  obtain ⟨_, ev, hev1, hev2⟩ := hI.errs "strconv.ErrRange" (by simp [errVars]) _ eR
  refine (Any.strconv_Atoi_range Tryz.lays172 ⟨t.toArray⟩ (by show t.toArray.size ≤ _; simp; omega) ha ev w hev1 hev2).mono ?_
  rintro e w' ⟨N, he, h1, h2, h3⟩
  refine ⟨_, he, ?_, below_grow h3⟩
  simp only [V.R, V.RL]
  exact ⟨_, rfl, _, _, rfl, rfl, _, _, rfl, ⟨#[.pointer (some ⟨N, 0, none⟩)], rfl, _, _, rfl, ⟨N, 0, rfl, .inl trivial⟩, rfl⟩, rfl⟩
 | _ =>
  refine FnOK.ofCalls fun I w vals hv hI => ?_
  simp only [V.RL, V.R] at hv
  obtain ⟨u, us, h1, rfl, rfl⟩ := hv
  obtain rfl : vals = #[.string ⟨t.toArray⟩] := by cases vals; simp_all
  obtain ⟨_, ev, hev1, hev2⟩ := hI.errs "strconv.ErrSyntax" (by simp [errVars]) _ eS
  refine (Any.strconv_Atoi_syntax Tryz.lays172 ⟨t.toArray⟩ (by show t.toArray.size ≤ _; simp; omega) ha ev w hev1 hev2).mono ?_
  rintro e w' ⟨N, he, h1, h2, h3⟩
  refine ⟨_, he, ?_, below_grow h3⟩
  simp only [V.R, V.RL]
  exact ⟨_, rfl, _, _, rfl, rfl, _, _, rfl, ⟨#[.pointer (some ⟨N, 0, none⟩)], rfl, _, _, rfl, ⟨N, 0, rfl, .inl trivial⟩, rfl⟩, rfl⟩
theorem Good.grownStep {P : Program} {I : Nat → Prop} {μ : Mu} {w w' : World} {hp : Hp} (pre : Pre P I μ w hp (List.range hp.length) hp.length) (hg : w.grownBy w' none) : Good P I I μ μ w w' hp hp (List.range hp.length) [] := by
 have G := Good.same hp pre
 have hE : ∀ X, Evo I w w' X := fun X => .ofGrown hg pre.ilt
 have hb : ∀ k, k < w.heap.size → w'.heap[k]? = w.heap[k]? := fun k hk => hg.block k hk (by simp)
 refine ⟨.refl _, fun k hk => .inl hk, hE _, .refl _, fun b g h => .inl h, fun _ _ _ => rfl, fun b hb' blk h => ?_, fun b hb' blk h => ?_, G.inj⟩
 ·have hH := G.holds b hb' blk h
  exact hH.keep (hE (fun _ => False)) (.refl _) (.refl _) (fun h => h) rfl (fun _ _ h => h) fun g hg => (G.holds b hb' blk h).nimm hg
 ·rcases hb' with hb' | hb'
  ·exact absurd (at_lt h) (by omega)
  ·cases hb'
theorem RL_strs {P : Program} {I : Nat → Prop} {μ : Mu} {w : World} : ∀ (L : List (List UInt8)) (vs : List Value), V.RL P I μ w (encs encStr L) vs ↔ vs = L.map Go.Proofs.encStr
 | [], vs => by simp [encs, V.RL]
 | s :: L, vs => by
  rw [encs_cons]
  simp only [encStr, List.cons_append, List.nil_append, V.RL, V.R, List.map_cons]
  constructor
  ·rintro ⟨u, us, rfl, rfl, h⟩
   rw [RL_strs L us] at h
   rw [h]
  ·rintro rfl
   exact ⟨_, _, rfl, rfl, (RL_strs L _).2 rfl⟩
abbrev fSort : Nat := 99
theorem sort_ok (L : List (List UInt8)) (f : Bool) (hL : L.length ≤ 1048576) : FnOK Tryz.prog fSort [.sl 0 0 L.length f] [some ([.sld (encs encStr L)], tStr)] ⟨.tup [], [some ([.sld (encs encStr (srt L))], tStr)], [0]⟩ := by
 refine ⟨⟨Nat.le_refl _, fun b hb => by simp at hb ⊢; omega, fun b hb => by simp at hb ⊢; omega, fun b hb h => ?_⟩, fun I w μ vals hv pre hdom => ?_⟩
 ·obtain rfl : b = 0 := by simp at hb; omega
  exact ⟨_, rfl⟩
 simp only [V.RL] at hv
 obtain ⟨u, us, h1, hu, rfl⟩ := hv
 obtain rfl : vals = #[u] := by cases vals; simp_all
 have pre1 := pre.top (Nat.le_refl _)
 simp only [V.R] at hu
 rcases hu with ⟨g, cap, e, N, i, hg, rfl, hc1, hc2, hfull, hsh, hi, hN⟩ | ⟨_, h0, a, rfl, _⟩
 ·have hb0 : ([some ([.sld (encs encStr L)], tStr)] : Hp)[0]? = some (some ([.sld (encs encStr L)], tStr)) := rfl
  obtain ⟨cur, fr, hnI, hw, hfr, ⟨hsz, hcr⟩, hnd, hF⟩ := (pre.holds 0 (by simp) _ hb0).real rfl hg
  have hfl : flat [.sld (encs encStr L)] = encs encStr L := by simp [flat]
  rw [hfl] at hsz hcr
  rw [layStr.length, Nat.mul_one] at hsz hcr
  obtain ⟨us, vs', e1, e2, e3⟩ := CR.seal_iff.1 hcr
  rw [RL_strs] at e2
  obtain ⟨_, rfl⟩ := CR.nil_iff.1 e3
  have htk : cur.toList.take L.length = L.map Go.Proofs.encStr := by rw [e1, e2]; simp
  have hgs : g < w.heap.size := (Array.getElem?_eq_some_iff.1 hw).1
  have hH : Go.Sort.Holds Go.Proofs.encStr w g 0 L.toArray := by
   intro j hj
   have hj' : j < L.length := by simpa using hj
   refine ⟨?_, ?_⟩
   ·have h1 : (cur.toList.take L.length)[j]? = (L.map Go.Proofs.encStr)[j]? := by rw [htk]
    rw [List.getElem?_take_of_lt hj'] at h1
    simp only [World.cell?, hw, Nat.zero_add]
    simp only [Option.isSome_none, Bool.false_eq_true, if_false]
    rw [← Array.getElem?_toList, h1]
    simp [hj']
   ·simp only [World.frozen?, hw, Nat.zero_add]
    rcases hfr with h | h <;> simp <;> omega
  refine (Any.slices_Sort_string Tryz.lays190 g 0 cap L w hH hgs (by omega)).mono ?_
  rintro e' w' ⟨rfl, n, os, rfl⟩
  have hsl : (srt L).length = L.length := by simp [srt]
  have G1 := Good.writeC (F := []) (cs := Go.Sort.putCells Go.Proofs.encStr 0 (srt L).toArray cur) (blk' := ([.sld (encs encStr (srt L))], tStr)) pre1 (b := 0) (by simp) hb0 hg hw rfl (by simp [Go.Sort.putCells]) hfr (List.nil_sublist _) (by
   refine ⟨?_, ?_⟩
   ·simp [flat, layStr.length, hsl, Go.Sort.putCells]; omega
   ·have e5 : (flat [.sld (encs encStr (srt L))]).length = (srt L).length := by simp [flat, layStr.length]
    rw [e5, take_putCells cur (srt L) (by omega)]
    exact CR.sealed ((RL_strs _ _).2 rfl))
  have hgb : (w.setRow g (Go.Sort.putCells Go.Proofs.encStr 0 (srt L).toArray cur)).grownBy (Go.Sort.grow (Go.Sort.putRow Go.Proofs.encStr (Go.Sort.ahead w n) g 0 (srt L).toArray) os) none := by
   refine ⟨rfl, rfl, rfl, by simp [Go.Sort.grow, Go.Sort.putRow, Go.Sort.mapBlock, Go.Sort.ahead], fun k hk _ => ?_⟩
   by_cases hkg : k = g
   ·subst hkg
    rw [heap_sorted _ hw, setRow_heap w k cur _ _ fr hw]
   ·rw [setRow_other w g k _ hkg]
    exact (grownBy_sorted (w := w) (g := g) (n := n) (os := os) (srt L).toArray).block k (by simpa using hk) (by simpa using fun e => hkg (by first | exact e | exact e.symm))
  have pre2 := G1.pre (by simp) pre1 hdom 1
  have G2 := Good.grownStep pre2 hgb
  exact ⟨_, _, I, rfl, (by simp only [V.R, V.RL]; exact ⟨#[], rfl, rfl⟩), G1.trans G2 (by simp) (by simp) (by simp) (fun b hb ⟨blk, h⟩ => by
   obtain rfl : b = 0 := by simp at hb; omega
   exact ⟨_, rfl⟩) (fun b hb h => h) (by simp) (by simp) (by simp)⟩
 ·obtain rfl : L = [] := List.eq_nil_of_length_eq_zero h0
  refine (Any.slices_Sort_string_none Tryz.lays190 a 0 w).mono ?_
  rintro e' w' ⟨rfl, rfl⟩
  have G := Good.same _ pre1
  rw [show srt [] = [] from by simp [srt]]
  exact ⟨_, μ, I, rfl, (by simp only [V.R, V.RL]; exact ⟨#[], rfl, rfl⟩), ⟨G.isub, fun k hk => .inl hk, G.evo.mono (fun k hk => by simp at hk), G.le, G.dom, fun _ _ _ => rfl, G.holds, fun b hb blk h g hg => by
   rcases hb with hb | hb
   ·exact absurd (at_lt h) (by simp at hb ⊢; omega)
   ·simp at hb; subst hb
    exact .inr ⟨0, by simp, hg, _, rfl⟩, G.inj⟩⟩
end Go.Proofs.YtfncaghjfgnnhaaGreatDoor

namespace Go.Proofs.YtfncaghjfgnnhaaGreatDoor
open Go.RowKit
set_option maxRecDepth 100000
def encKV (x : List UInt8 × J) : List V := [.str x.1, .agg (vwJ x.2)]
theorem vwJ_inj {i j : J} (h : vwJ i = vwJ j) : i = j := encJ_inj i j (by rw [encJ_vw, encJ_vw, h])
theorem encKV_inj : ∀ L M : List (List UInt8 × J), encs encKV L = encs encKV M → L = M
 | [], [], _ => rfl
 | [], y :: M, h => by have := congrArg List.length h; simp [encs, encKV] at this
 | x :: L, [], h => by have := congrArg List.length h; simp [encs, encKV] at this
 | (k, j) :: L, (k', j') :: M, h => by
  rw [encs_cons, encs_cons] at h
  simp only [encKV, List.cons_append, List.nil_append, List.cons.injEq, V.str.injEq, V.agg.injEq] at h
  obtain ⟨h1, h2, h3⟩ := h
  rw [h1, vwJ_inj h2, encKV_inj L M h3]
theorem decKV (L : List (List UInt8 × J)) : decL encKV (encs encKV L) = L := by
 have he : ∃ M, encs encKV M = encs encKV L := ⟨L, rfl⟩
 unfold decL
 rw [dif_pos he]
 exact encKV_inj _ _ he.choose_spec
theorem kvGet_find (k : List UInt8) : ∀ m : List (List UInt8 × J), KFind (.str k) (encs encKV m) = some ((kvGet k m).map fun j => .agg (vwJ j))
 | [] => rfl
 | (k', j) :: m => by
  rw [encs_cons]
  have ih := kvGet_find k m
  show KFind (.str k) (.str k' :: .agg (vwJ j) :: encs encKV m) = _
  unfold KFind
  unfold keyEq kvGet
  cases h : k == k' with
  | true => simp [h]
  | false => simp [h, ih]
theorem kvPut_put (k : List UInt8) (j : J) : ∀ m : List (List UInt8 × J), KPut (.str k) (.agg (vwJ j)) (encs encKV m) = some (encs encKV (kvPut k j m))
 | [] => rfl
 | (k', j') :: m => by
  rw [encs_cons]
  have ih := kvPut_put k j m
  show KPut (.str k) (.agg (vwJ j)) (.str k' :: .agg (vwJ j') :: encs encKV m) = _
  unfold KPut
  unfold keyEq kvPut
  cases h : k == k' with
  | true => simp [h, encs_cons, encKV]
  | false => simp [h, ih, encs_cons, encKV]
def vwO (o : Option J) : List V := [.int .i64 (o.getD J.zero).kind, .int .i64 (o.getD J.zero).n, .str (o.getD J.zero).t, .dsl (o.getD J.zero).keys.length (!o.isSome) (encs encStr (o.getD J.zero).keys), .dsl (o.getD J.zero).items.length (!o.isSome) (encs encJ (o.getD J.zero).items)]
noncomputable def mpKV : MapE where
 look := fun _ c k => match k with
  | .str k => some ⟨kvGet k (decL encKV c), fun y => (y.isSome, .agg (vwO y))⟩
  | _ => none
 put := fun _ c k v => match k, v with
  | .str k, .agg [.int _ a, .int _ b, .str t, .dsl _ _ ks, .dsl _ _ its] => some ⟨kvPut k (jOf a b t ks its) (decL encKV c), fun y => encs encKV y⟩
  | _, _ => none
abbrev tMapJ : Nat := 99
def mcB (b : Nat) : Option Blk := some ([.box .map [.ptr b 0]], tMapJ)
def mpB (m : List (List UInt8 × J)) : Option Blk := some ([.sld (.slo [] :: encs encKV m)], mapTid)
def obB (ks : List (List UInt8)) : Option Blk := some ([.int .i64 5, .int .i64 0, .str [], .osl 9 ks.length false (encs encStr ks), .osl tJ 0 false []], tJ)
noncomputable def resO1 (val : RS → J × RS) : ResT := fun f vs hp => match vs, hp with
 | [.ptr 0 0, .int _ _], [some ([.str t, .int _ i, .bool bad, .int _ room], _)] => bif Nat.beq f fVal then some ⟨val ⟨t.drop i.toNat, bad, room⟩, fun y => ⟨.agg (vwJ y.1), [rsB t y.2], [0]⟩⟩ else none
 | [.ptr 0 0], [some ([.str t, .int _ i, .bool bad, .int _ room], _)] => bif Nat.beq f fText then some ⟨txtE bad (t.drop i.toNat), fun y => ⟨.str y.1, [rsB t ⟨y.2.2, y.2.1, room⟩], [0]⟩⟩ else none
 | vs, hp => resRd f vs hp
noncomputable def EO1 (val : RS → J × RS) : Env := { P := Tryz.prog, vw := vwA, res := resO1 val, mp := mpKV }
--FOLD vwJ rdI prB dpB rsB
set_option maxRecDepth 100000 in
theorem iob1T (val : RS → J × RS) (t : List UInt8) (ks : List (List UInt8)) (m : List (List UInt8 × J)) (d i : Int) (bad : Bool) (room : Int) : fnT (EO1 val) 2 fObj1 [.ptr 0 0, .ptr 1 0, .ptr 2 0, .ptr 3 0] [prB 4, dpB d, mcB 5, obB ks, rdI t i bad room, mpB m] =
 T.bind (RS.want (RS.mk (List.drop (Int.toNat i) t) bad room) [(34 : UInt8)]) fun y0 =>
 T.need [FnOK (Env.P (EO1 val)) 97 [V.ptr 0 0, V.str [34]] [rdI t i bad room] (Ret.mk (V.tup []) [rdI t (↑(pos' t (RS.s y0)) : Int) (RS.bad y0) (RS.room y0)] [0])]
 (T.bind (txtE (RS.bad y0) (List.drop (Int.toNat (↑(pos' t (RS.s y0)) : Int)) t)) fun y1 =>
 T.need
 [FnOK (Env.P (EO1 val)) 74 [V.ptr 0 0] [rdI t (↑(pos' t (RS.s y0)) : Int) (RS.bad y0) (RS.room y0)]
 (Ret.mk (V.str (Prod.fst y1))
 [rdI t (↑(pos' t (RS.s (RS.mk (Prod.snd (Prod.snd y1)) (Prod.fst (Prod.snd y1)) (RS.room y0)))) : Int) (RS.bad (RS.mk (Prod.snd (Prod.snd y1)) (Prod.fst (Prod.snd y1)) (RS.room y0)))
 (RS.room (RS.mk (Prod.snd (Prod.snd y1)) (Prod.fst (Prod.snd y1)) (RS.room y0)))]
 [0])]
 (T.bind
 (RS.want
 (RS.mk (List.drop (Int.toNat (↑(pos' t (RS.s (RS.mk (Prod.snd (Prod.snd y1)) (Prod.fst (Prod.snd y1)) (RS.room y0)))) : Int)) t) (RS.bad (RS.mk (Prod.snd (Prod.snd y1)) (Prod.fst (Prod.snd y1)) (RS.room y0)))
 (RS.room (RS.mk (Prod.snd (Prod.snd y1)) (Prod.fst (Prod.snd y1)) (RS.room y0))))
 [(58 : UInt8)])
 fun y2 =>
 T.need
 [FnOK (Env.P (EO1 val)) 97 [V.ptr 0 0, V.str [58]]
 [rdI t (↑(pos' t (RS.s (RS.mk (Prod.snd (Prod.snd y1)) (Prod.fst (Prod.snd y1)) (RS.room y0)))) : Int) (RS.bad (RS.mk (Prod.snd (Prod.snd y1)) (Prod.fst (Prod.snd y1)) (RS.room y0)))
 (RS.room (RS.mk (Prod.snd (Prod.snd y1)) (Prod.fst (Prod.snd y1)) (RS.room y0)))]
 (Ret.mk (V.tup []) [rdI t (↑(pos' t (RS.s y2)) : Int) (RS.bad y2) (RS.room y2)] [0])]
 (T.bind (val (RS.mk (List.drop (Int.toNat (↑(pos' t (RS.s y2)) : Int)) t) (RS.bad y2) (RS.room y2))) fun y3 =>
 T.need
 [FnOK (Env.P (EO1 val)) 47 [V.ptr 0 0, V.int IntKind.i64 (IntKind.wrap IntKind.i64 (d + (1 : Int)))] [rdI t (↑(pos' t (RS.s y2)) : Int) (RS.bad y2) (RS.room y2)]
 (Ret.mk (V.agg (vwJ (Prod.fst y3))) [rdI t (↑(pos' t (RS.s (Prod.snd y3))) : Int) (RS.bad (Prod.snd y3)) (RS.room (Prod.snd y3))] [0])]
 (T.bind (MLk.v (MLk.mk (kvGet (Prod.fst y1) (decL encKV (encs encKV m))) fun y => (Option.isSome y, V.agg (vwO y)))) fun y4 =>
 T.need
 [(Option.isSome y4 = true →
 KFind (V.str (Prod.fst y1)) (encs encKV m) =
 some
 (some
 (V.agg
 [V.int IntKind.i64 (J.kind (Option.getD y4 (J.mk (0 : Int) (0 : Int) [] [] []))), V.int IntKind.i64 (J.n (Option.getD y4 (J.mk (0 : Int) (0 : Int) [] [] []))),
 V.str (J.t (Option.getD y4 (J.mk (0 : Int) (0 : Int) [] [] []))),
 V.dsl (List.length (J.keys (Option.getD y4 (J.mk (0 : Int) (0 : Int) [] [] [])))) (!Option.isSome y4) (encs encStr (J.keys (Option.getD y4 (J.mk (0 : Int) (0 : Int) [] [] [])))),
 V.dsl (List.length (J.items (Option.getD y4 (J.mk (0 : Int) (0 : Int) [] [] [])))) (!Option.isSome y4) (encs encJ (J.items (Option.getD y4 (J.mk (0 : Int) (0 : Int) [] [] []))))]))) ∧
 (Option.isSome y4 = false →
 KFind (V.str (Prod.fst y1)) (encs encKV m) = some none ∧
 V.agg
 [V.int IntKind.i64 (J.kind (Option.getD y4 (J.mk (0 : Int) (0 : Int) [] [] []))), V.int IntKind.i64 (J.n (Option.getD y4 (J.mk (0 : Int) (0 : Int) [] [] []))),
 V.str (J.t (Option.getD y4 (J.mk (0 : Int) (0 : Int) [] [] []))),
 V.dsl (List.length (J.keys (Option.getD y4 (J.mk (0 : Int) (0 : Int) [] [] [])))) (!Option.isSome y4) (encs encStr (J.keys (Option.getD y4 (J.mk (0 : Int) (0 : Int) [] [] [])))),
 V.dsl (List.length (J.items (Option.getD y4 (J.mk (0 : Int) (0 : Int) [] [] [])))) (!Option.isSome y4) (encs encJ (J.items (Option.getD y4 (J.mk (0 : Int) (0 : Int) [] [] []))))] =
 V.agg [V.int IntKind.i64 (0 : Int), V.int IntKind.i64 (0 : Int), V.str [], V.dsl 0 true [], V.dsl 0 true []])]
 (bif Option.isSome y4 then
 T.bind
 (MPt.v
 (MPt.mk
 (kvPut (Prod.fst y1) (jOf (J.kind (Prod.fst y3)) (J.n (Prod.fst y3)) (J.t (Prod.fst y3)) (encs encStr (J.keys (Prod.fst y3))) (encs encJ (J.items (Prod.fst y3)))) (decL encKV (encs encKV m)))
 fun y => encs encKV y))
 fun y5 =>
 T.need
 [KPut (V.str (Prod.fst y1)) (V.agg (vwJ (Prod.fst y3))) (encs encKV m) =
 some
 (MPt.r
 (MPt.mk
 (kvPut (Prod.fst y1) (jOf (J.kind (Prod.fst y3)) (J.n (Prod.fst y3)) (J.t (Prod.fst y3)) (encs encStr (J.keys (Prod.fst y3))) (encs encJ (J.items (Prod.fst y3))))
 (decL encKV (encs encKV m)))
 fun y => encs encKV y)
 y5)]
 (T.need
 [0 = 0, List.length (encs encStr ks) = List.length ks * 1, List.length ks + 1 ≤ 9223372036854775807,
 (List.length ks + 1) * 16 ≤ 140737488355328]
 (T.done
 (Ret.mk (V.tup [])
 [prB 4, dpB d, some ([V.box BK.map [V.ptr 5 0]], 99),
 some ([V.int IntKind.i64 (5 : Int), V.int IntKind.i64 (0 : Int), V.str [], V.sl 6 0 (List.length ks + 1) false, V.osl 25 0 false []], 25),
 rdI t (↑(pos' t (RS.s (Prod.snd y3))) : Int) true (RS.room (Prod.snd y3)),
 some
 ([V.sld
 (V.slo [] ::
 MPt.r
 (MPt.mk
 (kvPut (Prod.fst y1) (jOf (J.kind (Prod.fst y3)) (J.n (Prod.fst y3)) (J.t (Prod.fst y3)) (encs encStr (J.keys (Prod.fst y3))) (encs encJ (J.items (Prod.fst y3))))
 (decL encKV (encs encKV m)))
 fun y => encs encKV y)
 y5)],
 4294967291),
 some ([V.sld (encs encStr ks ++ [V.str (Prod.fst y1)])], 9)]
 [4, 5, 3])))
 else
 T.bind
 (MPt.v
 (MPt.mk
 (kvPut (Prod.fst y1) (jOf (J.kind (Prod.fst y3)) (J.n (Prod.fst y3)) (J.t (Prod.fst y3)) (encs encStr (J.keys (Prod.fst y3))) (encs encJ (J.items (Prod.fst y3)))) (decL encKV (encs encKV m)))
 fun y => encs encKV y))
 fun y6 =>
 T.need
 [KPut (V.str (Prod.fst y1)) (V.agg (vwJ (Prod.fst y3))) (encs encKV m) =
 some
 (MPt.r
 (MPt.mk
 (kvPut (Prod.fst y1) (jOf (J.kind (Prod.fst y3)) (J.n (Prod.fst y3)) (J.t (Prod.fst y3)) (encs encStr (J.keys (Prod.fst y3))) (encs encJ (J.items (Prod.fst y3))))
 (decL encKV (encs encKV m)))
 fun y => encs encKV y)
 y6)]
 (T.need
 [0 = 0, List.length (encs encStr ks) = List.length ks * 1, List.length ks + 1 ≤ 9223372036854775807,
 (List.length ks + 1) * 16 ≤ 140737488355328]
 (T.done
 (Ret.mk (V.tup [])
 [prB 4, dpB d, some ([V.box BK.map [V.ptr 5 0]], 99),
 some ([V.int IntKind.i64 (5 : Int), V.int IntKind.i64 (0 : Int), V.str [], V.sl 6 0 (List.length ks + 1) false, V.osl 25 0 false []], 25),
 rdI t (↑(pos' t (RS.s (Prod.snd y3))) : Int) (RS.bad (Prod.snd y3)) (RS.room (Prod.snd y3)),
 some
 ([V.sld
 (V.slo [] ::
 MPt.r
 (MPt.mk
 (kvPut (Prod.fst y1) (jOf (J.kind (Prod.fst y3)) (J.n (Prod.fst y3)) (J.t (Prod.fst y3)) (encs encStr (J.keys (Prod.fst y3))) (encs encJ (J.items (Prod.fst y3))))
 (decL encKV (encs encKV m)))
 fun y => encs encKV y)
 y6)],
 4294967291),
 some ([V.sld (encs encStr ks ++ [V.str (Prod.fst y1)])], 9)]
 [4, 5, 3])))))))) := (T.force_eq _).symm.trans (by kernel_rfl)
theorem RIn.sub {t : List UInt8} {r r' : RS} (h : RIn t r) (hs : r'.s <:+ r.s) (hr : r'.room = r.room) : RIn t r' := ⟨hs.trans h.suf, by have := h.lo; have := hs.length_le; rw [hr]; omega, by rw [hr]; exact h.hi⟩
theorem objStep_out {val : RS → J × RS} (hV : ∀ r, ROut r (val r).2) (r : RS) (a : KM) : ROut r (objStep val r a).1 := by
 have key : ∀ r2 : RS, r2.s <:+ r.s → r2.room = r.room → ∀ b, ROut r ⟨(val r2).2.s, b, (val r2).2.room⟩ := fun r2 h hr b => by
  have h4 := hV r2
  have l := h.length_le
  exact ⟨h4.suf.trans h, by have := h4.lo; show r.room - 1 ≤ (val r2).2.room + 2 * ((r.s.length : Int) - (val r2).2.s.length); omega, by have := h4.hi; show (val r2).2.room ≤ r.room; omega⟩
 exact key ((RS.mk (txtE (r.want [34]).bad (r.want [34]).s).2.2 (txtE (r.want [34]).bad (r.want [34]).s).2.1 (r.want [34]).room).want [58]) ((want_suf _ _).trans ((txtE_suf _ _).trans (want_suf _ _))) rfl _
theorem obj1_ok {t : List UInt8} {d : Int} {val : RS → J × RS} (ht : t.length ≤ 1000000) (hd : 0 ≤ d ∧ d ≤ 1000) (hV : ValOK t (d + 1) val) (r : RS) (hr : RIn t r) (a : KM) (hL : a.ks.length ≤ 1048576) :
  FnOK Tryz.prog fObj1 [.ptr 0 0, .ptr 1 0, .ptr 2 0, .ptr 3 0] [prB 4, dpB d, mcB 5, obB a.ks, rsB t r, mpB a.m] ⟨.tup [], [prB 4, dpB d, mcB 5, obB (objStep val r a).2.ks, rsB t (objStep val r a).1, mpB (objStep val r a).2.m, none], [4, 5, 3, 3]⟩ := by
 have h1 : FnOK Tryz.prog fObj1 [.ptr 0 0, .ptr 1 0, .ptr 2 0, .ptr 3 0] [prB 4, dpB d, mcB 5, obB a.ks, rsB t r, mpB a.m] ⟨.tup [], [prB 4, dpB d, mcB 5, some ([.int .i64 5, .int .i64 0, .str []] ++ .sl 6 0 (a.ks.length + 1) false :: [.osl tJ 0 false []], tJ), rsB t (objStep val r a).1, mpB (objStep val r a).2.m, some ([.sld (encs encStr (objStep val r a).2.ks)], tStr)], [4, 5, 3]⟩ := by
  refine fnOK_TL (E := EO1 val) follows named (iob1T val t a.ks a.m d (pos' t r.s : Nat) r.bad r.room) (by simp) ?_
  simp only [WP_cond, T.WP, All, and_true, rs_eta hr.suf]
  rintro y0 rfl
  have s1 : (r.want [34]).s <:+ t := (want_suf _ _).trans hr.suf
  refine ⟨wt_ok _ (by omega) r hr.suf, ?_⟩
  rw [Int.toNat_natCast, drop_pos s1]
  rintro y1 rfl
  have s2 := (txtE_suf (r.want [34]).bad (r.want [34]).s).trans s1
  refine ⟨text_ok idxB_ok (by omega) s1 _ _, ?_⟩
  rw [Int.toNat_natCast, drop_pos s2]
  rintro y2 rfl
  have c2 := wt_ok [58] (by omega) ⟨(txtE (r.want [34]).bad (r.want [34]).s).2.2, (txtE (r.want [34]).bad (r.want [34]).s).2.1, (r.want [34]).room⟩ s2
  refine ⟨c2, ?_⟩
  have s3 := (want_suf ⟨(txtE (r.want [34]).bad (r.want [34]).s).2.2, (txtE (r.want [34]).bad (r.want [34]).s).2.1, (r.want [34]).room⟩ [58]).trans s2
  rw [rs_eta s3]
  rintro y3 rfl
  have hw : IntKind.i64.wrap (d + 1) = d + 1 := wrap_id (by omega)
  rw [hw]
  refine ⟨hV.run _ (hr.sub ((want_suf _ _).trans ((txtE_suf _ _).trans (want_suf _ _))) rfl), ?_⟩
  rintro y4 rfl
  rw [decKV]
  simp only [jOf_vw, layStr.length, show J.mk 0 0 [] [] [] = J.zero from rfl]
  have f1 := kvGet_find (txtE (r.want [34]).bad (r.want [34]).s).1 a.m
  have f2 := fun j => kvPut_put (txtE (r.want [34]).bad (r.want [34]).s).1 j a.m
  have eo : objStep val r a = (⟨(val ((RS.mk (txtE (r.want [34]).bad (r.want [34]).s).2.2 (txtE (r.want [34]).bad (r.want [34]).s).2.1 (r.want [34]).room).want [58])).2.s, (val ((RS.mk (txtE (r.want [34]).bad (r.want [34]).s).2.2 (txtE (r.want [34]).bad (r.want [34]).s).2.1 (r.want [34]).room).want [58])).2.bad || (kvGet (txtE (r.want [34]).bad (r.want [34]).s).1 a.m).isSome, (val ((RS.mk (txtE (r.want [34]).bad (r.want [34]).s).2.2 (txtE (r.want [34]).bad (r.want [34]).s).2.1 (r.want [34]).room).want [58])).2.room⟩, ⟨a.ks ++ [(txtE (r.want [34]).bad (r.want [34]).s).1], kvPut (txtE (r.want [34]).bad (r.want [34]).s).1 (val ((RS.mk (txtE (r.want [34]).bad (r.want [34]).s).2.2 (txtE (r.want [34]).bad (r.want [34]).s).2.1 (r.want [34]).room).want [58])).1 a.m⟩) := rfl
  rw [eo]
  generalize val ((RS.mk (txtE (r.want [34]).bad (r.want [34]).s).2.2 (txtE (r.want [34]).bad (r.want [34]).s).2.1 (r.want [34]).room).want [58]) = v at *
  generalize (txtE (r.want [34]).bad (r.want [34]).s).1 = k at *
  rw [f1]
  cases hk : kvGet k a.m with
  | none =>
   simp only [Option.isSome_none, Option.map_none, Bool.false_eq_true, false_implies, true_and, forall_const, Option.getD_none, Bool.or_false, Bool.not_false]
   refine ⟨rfl, ?_⟩
   rintro y5 rfl
   refine ⟨f2 _, ⟨by omega, by omega⟩, rfl, ?_, fun b hb => hb⟩
   rw [encs_snoc]; rfl
  | some j =>
   simp only [Option.isSome_some, Option.map_some, false_implies, true_and, and_true, forall_const, Option.getD_some, Bool.or_true, Bool.not_true, reduceCtorEq]
   refine ⟨rfl, ?_⟩
   rintro y5 rfl
   refine ⟨f2 _, ⟨by omega, by omega⟩, rfl, ?_, fun b hb => hb⟩
   rw [encs_snoc]; rfl
 have h2 := h1.prepOut (prepPack (b := 3) (c := 6) (pr := [.int .i64 5, .int .i64 0, .str []]) (po := [.osl tJ 0 false []]) (by decide) rfl rfl rfl)
 have h3 := h2.more (wr := [4, 5, 3, 3]) (by simp [mem_lows]) (by simp)
 have e : obB (objStep val r a).2.ks = some ([.int .i64 5, .int .i64 0, .str []] ++ .osl tStr (a.ks.length + 1) (hasO [.sld (encs encStr (objStep val r a).2.ks)]) (flat [.sld (encs encStr (objStep val r a).2.ks)]) :: [.osl tJ 0 false []], tJ) := by
  simp [obB, objStep, flat, hasO]
 rw [e]
 exact h3
end Go.Proofs.YtfncaghjfgnnhaaGreatDoor

namespace Go.Proofs.YtfncaghjfgnnhaaGreatDoor
open Go.RowKit
set_option maxRecDepth 100000
noncomputable def resPo (val : RS → J × RS) : ResT := fun f vs hp => match vs, hp with
 | [.ptr 0 0, .ptr 1 0, .ptr 2 0, .ptr 3 0], [some _, some ([.int _ d], _), some _, some ([_, _, _, .osl _ _ _ cs, _], _), some ([.str t, .int _ i, .bool bad, .int _ room], _), some ([.sld (_ :: mc)], _)] =>
  bif Nat.beq f fObj1 then some ⟨objStep val ⟨t.drop i.toNat, bad, room⟩ ⟨decL encStr cs, decL encKV mc⟩, fun y => ⟨.tup [], [prB 4, dpB d, mcB 5, obB y.2.ks, rsB t y.1, mpB y.2.m, none], [4, 5, 3, 3]⟩⟩ else none
 | vs, hp => resRd f vs hp
noncomputable def EPo (val : RS → J × RS) : Env := { P := Tryz.prog, vw := vwA, res := resPo val }
def stPo (t : List UInt8) (e : List UInt8) (a : KM) (d i : Int) (bad : Bool) (room : Int) : St := ⟨mkTm 21 [(0, .ptr 0 0), (1, .str e), (2, .fn fObj1 [.ptr 1 0, .ptr 2 0, .ptr 3 0, .ptr 4 0])], [rdI t i bad room, prB 0, dpB d, mcB 5, obB a.ks, mpB a.m], [0, 4, 5]⟩
def nfPo : Ex → Kp := fun ex => match ex with
 | .normal => { keep := [0, 1, 2], wr := [0, 4, 5] }
 | _ => { keep := [], wr := [0, 4, 5] }
--FOLD vwJ rdI prB dpB rsB mcB obB mpB
set_option maxRecDepth 100000 in
theorem partO0 (val : RS → J × RS) (t e : List UInt8) (a : KM) (d i : Int) (bad : Bool) (room : Int) : bodyT (EPo val) 6 nfPo (lp Tryz.prog fParts 0) (stPo t e a d i bad room) = (
 bif !bad then .bind (objStep val (RS.mk (List.drop (Int.toNat i) t) bad room) (KM.mk (decL encStr (encs encStr (KM.ks a))) (decL encKV (encs encKV (KM.m a))))) fun y0 => .need [FnOK Tryz.prog 98 [.ptr 0 0, .ptr 1 0, .ptr 2 0, .ptr 3 0] [prB
 4, dpB d, mcB 5, obB (KM.ks a), rdI t i bad room, mpB (KM.m a)] (Ret.mk (.tup []) [prB 4, dpB d, mcB 5, obB (KM.ks y0.2), rdI t (↑(pos' t (RS.s y0.1)) : Int) (RS.bad y0.1) (RS.room y0.1), mpB (KM.m y0.2), none] [4, 5, 3, 3])] (.bind (RS.tk
 (RS.mk (List.drop (Int.toNat (↑(pos' t (RS.s y0.1)) : Int)) t) (RS.bad y0.1) (RS.room y0.1)) e) fun y1 => .need [FnOK Tryz.prog 73 [.ptr 0 0, .str e] [rdI t (↑(pos' t (RS.s y0.1)) : Int) (RS.bad y0.1) (RS.room y0.1)] (Ret.mk (.bool y1.1)
 [rdI t (↑(pos' t (RS.s y1.2)) : Int) (RS.bad y1.2) (RS.room y1.2)] [0])] (bif y1.1 then .done (Ex.ret, St.mk (mkTm 21 []) [rdI t (↑(pos' t (RS.s y1.2)) : Int) (RS.bad y1.2) (RS.room y1.2), prB 0, dpB d, mcB 5, obB (KM.ks y0.2), mpB (KM.m
 y0.2)] [0, 4, 5]) else .bind (RS.want (RS.mk (List.drop (Int.toNat (↑(pos' t (RS.s y1.2)) : Int)) t) (RS.bad y1.2) (RS.room y1.2)) [(44 : UInt8)]) fun y2 => .need [FnOK Tryz.prog 97 [.ptr 0 0, .str [44]] [rdI t (↑(pos' t (RS.s y1.2)) : Int)
 (RS.bad y1.2) (RS.room y1.2)] (Ret.mk (.tup []) [rdI t (↑(pos' t (RS.s y2)) : Int) (RS.bad y2) (RS.room y2)] [0])] (.done (Ex.normal, St.mk (mkTm 21 [(0, .ptr 0 0), (1, .str e), (2, .fn 98 [.ptr 1 0, .ptr 2 0, .ptr 3 0, .ptr 4 0])]) [rdI t
 (↑(pos' t (RS.s y2)) : Int) (RS.bad y2) (RS.room y2), prB 0, dpB d, mcB 5, obB (KM.ks y0.2), mpB (KM.m y0.2)] [0, 4, 5])))) else .done (Ex.exit 0, St.mk (mkTm 21 []) [rdI t i bad room, prB 0, dpB d, mcB 5, obB (KM.ks a), mpB (KM.m a)] [0,
 4, 5]) : T _) := by kernel_rfl
theorem objStep_len (val : RS → J × RS) (r : RS) (a : KM) : (objStep val r a).2.ks.length = a.ks.length + 1 := by simp [objStep]
theorem partO_loop {t e : List UInt8} {d : Int} {val : RS → J × RS} (ht : t.length ≤ 1000000) (hd : 0 ≤ d ∧ d ≤ 1000) (hV : ValOK t (d + 1) val) : ∀ (n : Nat) (r : RS) (a : KM), r.s <:+ t → (r.bad = false → RIn t r ∧ a.ks.length + r.s.length ≤ t.length + 1 ∧ r.s.length + 2 ≤ n) → 1 ≤ n →
  LoopTo Tryz.prog 6 (lp Tryz.prog fParts 0) (stPo t e a d (pos' t r.s : Nat) r.bad r.room) (bif (partsL e (objStep val) n r a).1.bad then .exit 0 else .ret) ⟨mkTm 21 [], [rsB t (partsL e (objStep val) n r a).1, prB 0, dpB d, mcB 5, obB (partsL e (objStep val) n r a).2.ks, mpB (partsL e (objStep val) n r a).2.m], [0, 4, 5]⟩
 | 0, r, a, hs, hr, hn => by omega
 | n + 1, ⟨s, true, room⟩, a, hs, hr, hn => by
  have tree := partO0 val t e a d (pos' t s : Nat) true room
  rw [partsL_bad]
  refine loopT (E := EPo val) follows named tree ?_
  simp only [WP_cond, T.WP, All, and_true]
  exact ⟨fun h => by simp at h, fun _ => ⟨rfl, rfl⟩⟩
 | n + 1, ⟨s, false, room⟩, a, hs, hr, hn => by
  have tree := partO0 val t e a d (pos' t s : Nat) false room
  rw [rs_eta' hs, layStr.decL, decKV] at tree
  obtain ⟨hI, hL, hn2⟩ := hr rfl
  have o1 : ROut ⟨s, false, room⟩ (objStep val ⟨s, false, room⟩ a).1 := objStep_out hV.out _ _
  have c1 := obj1_ok ht hd hV _ hI a (by omega)
  rw [partsL_on _ _ _ _ rfl]
  have hlen := objStep_len val ⟨s, false, room⟩ a
  generalize objStep val ⟨s, false, room⟩ a = y1 at *
  obtain ⟨r1, a1⟩ := y1
  have s1 : r1.s <:+ t := o1.suf.trans hs
  have s2 : (r1.tk e).2.s <:+ t := (tk_suf _ e).trans s1
  have s3 : ((r1.tk e).2.want [44]).s <:+ t := (want_suf _ _).trans s2
  have c2 := tk_ok e (by omega) r1 s1
  have c3 := wt_ok [44] (by omega) (r1.tk e).2 s2
  cases hk : (r1.tk e).1 with
  | true =>
   have hb2 : (r1.tk e).2.bad = false := (tkB_len hk).2
   refine loopT (E := EPo val) follows named tree ?_
   simp only [WP_cond, T.WP, All, and_true, cond_true, hb2, cond_false]
   refine ⟨fun _ => ?_, fun h => by simp at h⟩
   rintro y rfl
   refine ⟨c1, ?_⟩
   simp only [rs_eta s1]
   rintro y rfl
   refine ⟨c2, fun _ => ⟨rfl, ?_⟩, fun h => by rw [hk] at h; cases h⟩
   simp only [rsB, hb2]
  | false =>
   simp only [cond_false]
   have ih := partO_loop (e := e) ht hd hV n ((r1.tk e).2.want [44]) a1 s3 (fun hb3 => by
    obtain ⟨q1, q2⟩ := part_on hs hI o1 hb3
    simp only at hlen q2 hL hn2
    exact ⟨q1, by omega, by omega⟩) (by omega)
   refine loopT (E := EPo val) follows named tree ?_
   simp only [WP_cond, T.WP, All, and_true]
   refine ⟨fun _ => ?_, fun h => by simp at h⟩
   rintro y rfl
   refine ⟨c1, ?_⟩
   simp only [rs_eta s1]
   rintro y rfl
   refine ⟨c2, (fun h => by rw [hk] at h; cases h), fun _ => ?_⟩
   simp only [rs_eta s2]
   rintro y rfl
   exact ⟨c3, ih⟩
noncomputable def lsPo (e : List UInt8) (val : RS → J × RS) : Nat → St → Option LRes := fun id s => match id, s.hp with
 | 0, [some ([.str t, .int _ i, .bool bad, .int _ room], _), some _, some ([.int _ d], _), some _, some ([_, _, _, .osl _ _ _ cs, _], _), some ([.sld (_ :: mc)], _)] =>
  some ⟨partsL e (objStep val) ((t.drop i.toNat).length + 2) ⟨t.drop i.toNat, bad, room⟩ ⟨decL encStr cs, decL encKV mc⟩, fun y => .two { keep := [0, 1, 2], wr := [0, 4, 5] } (stPo t e ⟨decL encStr cs, decL encKV mc⟩ d i bad room) y.1.bad (.exit 0) ⟨mkTm 21 [], [rsB t y.1, prB 0, dpB d, mcB 5, obB y.2.ks, mpB y.2.m], [0, 4, 5]⟩ .ret ⟨mkTm 21 [], [rsB t y.1, prB 0, dpB d, mcB 5, obB y.2.ks, mpB y.2.m], [0, 4, 5]⟩⟩
 | _, _ => none
set_option maxRecDepth 100000 in
theorem partsOT (val : RS → J × RS) (t e : List UInt8) (a : KM) (d i : Int) (bad : Bool) (room : Int) : fnT { P := Tryz.prog, vw := vwA, res := resPo val, ls := lsPo e val } 0 fParts [.ptr 0 0, .str e, .fn fObj1 [.ptr 1 0, .ptr 2 0, .ptr 3 0, .ptr 4 0]] [rdI t i bad room, prB 0, dpB d, mcB 5, obB a.ks, mpB a.m] = (
 .bind (RS.tk (RS.mk (List.drop (Int.toNat i) t) bad room) e) fun y0 => .need [FnOK Tryz.prog 73 [.ptr 0 0, .str e] [rdI t i bad room] (Ret.mk (.bool y0.1) [rdI t (↑(pos' t (RS.s y0.2)) : Int) (RS.bad y0.2) (RS.room y0.2)] [0])] (bif y0.1
 then .done (Ret.mk (.tup []) [rdI t (↑(pos' t (RS.s y0.2)) : Int) (RS.bad y0.2) (RS.room y0.2), prB 0, dpB d, mcB 5, obB (KM.ks a), mpB (KM.m a)] [0]) else .bind (partsL e (objStep val) (List.length (List.drop (Int.toNat (↑(pos' t (RS.s
 y0.2)) : Int)) t) + 2) (RS.mk (List.drop (Int.toNat (↑(pos' t (RS.s y0.2)) : Int)) t) (RS.bad y0.2) (RS.room y0.2)) (KM.mk (decL encStr (encs encStr (KM.ks a))) (decL encKV (encs encKV (KM.m a))))) fun y1 => .need [St.mk (mkTm 21 [(0, .ptr
 0 0), (1, .str e), (2, .fn 98 [.ptr 1 0, .ptr 2 0, .ptr 3 0, .ptr 4 0])]) [rdI t (↑(pos' t (RS.s y0.2)) : Int) (RS.bad y0.2) (RS.room y0.2), prB 0, dpB d, mcB 5, obB (KM.ks a), mpB (KM.m a)] [0, 4, 5] = St.mk (mkTm 21 [(0, .ptr 0 0), (1,
 .str e), (2, .fn 98 [.ptr 1 0, .ptr 2 0, .ptr 3 0, .ptr 4 0])]) [rdI t (↑(pos' t (RS.s y0.2)) : Int) (RS.bad y0.2) (RS.room y0.2), prB 0, dpB d, mcB 5, obB (KM.ks (KM.mk (decL encStr (encs encStr (KM.ks a))) (decL encKV (encs encKV (KM.m
 a))))), mpB (KM.m (KM.mk (decL encStr (encs encStr (KM.ks a))) (decL encKV (encs encKV (KM.m a)))))] [0, 4, 5]] (bif RS.bad y1.1 then .need [SoundC Tryz.prog 6 (blk Tryz.prog fParts 0) (St.mk (mkTm 21 [(0, .ptr 0 0), (1, .str e), (2, .fn 98
 [.ptr 1 0, .ptr 2 0, .ptr 3 0, .ptr 4 0])]) [rdI t (↑(pos' t (RS.s y0.2)) : Int) (RS.bad y0.2) (RS.room y0.2), prB 0, dpB d, mcB 5, obB (KM.ks (KM.mk (decL encStr (encs encStr (KM.ks a))) (decL encKV (encs encKV (KM.m a))))), mpB (KM.m
 (KM.mk (decL encStr (encs encStr (KM.ks a))) (decL encKV (encs encKV (KM.m a)))))] [0, 4, 5]) (Ex.exit 0) (St.mk (mkTm 21 []) [rdI t (↑(pos' t (RS.s y1.1)) : Int) (RS.bad y1.1) (RS.room y1.1), prB 0, dpB d, mcB 5, obB (KM.ks y1.2), mpB
 (KM.m y1.2)] [0, 4, 5])] (.done (Ret.mk (.tup []) [rdI t (↑(pos' t (RS.s y1.1)) : Int) (RS.bad y1.1) (RS.room y1.1), prB 0, dpB d, mcB 5, obB (KM.ks y1.2), mpB (KM.m y1.2)] [0, 4, 5])) else .need [SoundC Tryz.prog 6 (blk Tryz.prog fParts 0)
 (St.mk (mkTm 21 [(0, .ptr 0 0), (1, .str e), (2, .fn 98 [.ptr 1 0, .ptr 2 0, .ptr 3 0, .ptr 4 0])]) [rdI t (↑(pos' t (RS.s y0.2)) : Int) (RS.bad y0.2) (RS.room y0.2), prB 0, dpB d, mcB 5, obB (KM.ks (KM.mk (decL encStr (encs encStr (KM.ks
 a))) (decL encKV (encs encKV (KM.m a))))), mpB (KM.m (KM.mk (decL encStr (encs encStr (KM.ks a))) (decL encKV (encs encKV (KM.m a)))))] [0, 4, 5]) Ex.ret (St.mk (mkTm 21 []) [rdI t (↑(pos' t (RS.s y1.1)) : Int) (RS.bad y1.1) (RS.room y1.1),
 prB 0, dpB d, mcB 5, obB (KM.ks y1.2), mpB (KM.m y1.2)] [0, 4, 5])] (.done (Ret.mk (.tup []) [rdI t (↑(pos' t (RS.s y1.1)) : Int) (RS.bad y1.1) (RS.room y1.1), prB 0, dpB d, mcB 5, obB (KM.ks y1.2), mpB (KM.m y1.2)] [0, 4, 5])))) : T _) := (T.force_eq _).symm.trans (by kernel_rfl)
theorem partsObj_ok {t e : List UInt8} {d : Int} {val : RS → J × RS} (ht : t.length ≤ 1000000) (hd : 0 ≤ d ∧ d ≤ 1000) (hV : ValOK t (d + 1) val) (r : RS) (hr : RIn t r) :
  FnOK Tryz.prog fParts [.ptr 0 0, .str e, .fn fObj1 [.ptr 1 0, .ptr 2 0, .ptr 3 0, .ptr 4 0]] [rsB t r, prB 0, dpB d, mcB 5, obB [], mpB []] ⟨.tup [], [rsB t (partsE e (objStep val) r ⟨[], []⟩).1, prB 0, dpB d, mcB 5, obB (partsE e (objStep val) r ⟨[], []⟩).2.ks, mpB (partsE e (objStep val) r ⟨[], []⟩).2.m], [0, 4, 5]⟩ := by
 refine fnOK_TL (E := { P := Tryz.prog, vw := vwA, res := resPo val, ls := lsPo e val }) follows named (partsOT val t e ⟨[], []⟩ d (pos' t r.s : Nat) r.bad r.room) (by simp) ?_
 simp only [WP_cond, T.WP, All, and_true, rs_eta hr.suf]
 rintro y rfl
 have s2 : (r.tk e).2.s <:+ t := (tk_suf r e).trans hr.suf
 have hI2 : RIn t (r.tk e).2 := ⟨s2, by have := hr.lo; have := (tk_suf r e).length_le; show 0 ≤ r.room + _; omega, hr.hi⟩
 have hl := partO_loop (e := e) ht hd hV ((r.tk e).2.s.length + 2) (r.tk e).2 ⟨[], []⟩ s2 (fun _ => ⟨hI2, by have := s2.length_le; simp; omega, Nat.le_refl _⟩) (by omega)
 have e0 : partsE e (objStep val) r ⟨[], []⟩ = bif (r.tk e).1 then ((r.tk e).2, ⟨[], []⟩) else partsL e (objStep val) ((r.tk e).2.s.length + 2) (r.tk e).2 ⟨[], []⟩ := rfl
 rw [e0]
 refine ⟨tk_ok e (by omega) r hr.suf, fun h => ?_, fun h => ?_⟩
 ·rw [h]; exact ⟨rfl, rfl, by simp⟩
 ·rw [h, rs_eta s2, Int.toNat_natCast, drop_pos s2, layStr.decL, decKV]
  simp only [cond_false]
  generalize partsL e (objStep val) ((r.tk e).2.s.length + 2) (r.tk e).2 ⟨[], []⟩ = y at *
  rintro y rfl
  refine ⟨trivial, fun h1 => ?_, fun h1 => ?_⟩
  ·rw [h1] at hl; exact ⟨.loopTo hl, ⟨rfl, rfl, by simp⟩⟩
  ·rw [h1] at hl; exact ⟨.loopTo hl, ⟨rfl, rfl, by simp⟩⟩
theorem partsObj_nil {t e : List UInt8} {d : Int} {val : RS → J × RS} (ht : t.length ≤ 1000000) (hd : 0 ≤ d ∧ d ≤ 1000) (hV : ValOK t (d + 1) val) (r : RS) (hr : RIn t r) :
  FnOK Tryz.prog fParts [.ptr 0 0, .str e, .fn fObj1 [.ptr 1 0, .ptr 2 0, .ptr 3 0, .ptr 4 0]] [rsB t r, prB 0, dpB d, mcB 5, nwB 5, mpB []] ⟨.tup [], [rsB t (partsE e (objStep val) r ⟨[], []⟩).1, prB 0, dpB d, mcB 5, obB (partsE e (objStep val) r ⟨[], []⟩).2.ks, mpB (partsE e (objStep val) r ⟨[], []⟩).2.m], [0, 4, 5]⟩ := by
 have p1 : PrepOK Tryz.prog [rsB t r, prB 0, dpB d, mcB 5, nwB 5, mpB []] [rsB t r, prB 0, dpB d, mcB 5, some ([.int .i64 5, .int .i64 0, .str []] ++ .dsl 0 true [] :: [.osl tJ 0 false []], tJ), mpB []] [4] :=
  prepNil (b := 4) (pr := [.int .i64 5, .int .i64 0, .str [], .dsl 0 true []]) (c := .dsl 0 true []) (po := []) (E := tJ) rfl rfl
 have p2 : PrepOK Tryz.prog [rsB t r, prB 0, dpB d, mcB 5, some ([.int .i64 5, .int .i64 0, .str []] ++ .dsl 0 true [] :: [.osl tJ 0 false []], tJ), mpB []] [rsB t r, prB 0, dpB d, mcB 5, obB [], mpB []] [4] :=
  prepNil (b := 4) (pr := [.int .i64 5, .int .i64 0, .str []]) (c := .dsl 0 true []) (po := [.osl tJ 0 false []]) (E := 9) rfl rfl
 have h := (partsObj_ok (e := e) ht hd hV r hr).prepIn p2 (fun b hb h => by
  simp at hb
  rcases hb with rfl | rfl | rfl
  ·exact ⟨_, rfl⟩
  ·exact ⟨_, rfl⟩
  ·exact ⟨_, rfl⟩)
 have h2 := h.prepIn p1 (fun b hb h => by
  have hb' := (mem_lows.1 hb).1
  simp at hb'
  rcases hb' with rfl | rfl | rfl | rfl
  ·exact ⟨_, rfl⟩
  ·exact ⟨_, rfl⟩
  ·exact ⟨_, rfl⟩
  ·exact ⟨_, rfl⟩)
 exact h2.more (by simp [mem_lows]) (by simp)
end Go.Proofs.YtfncaghjfgnnhaaGreatDoor

namespace Go.Proofs.YtfncaghjfgnnhaaGreatDoor
open Go.RowKit
set_option maxRecDepth 100000
def ob2 (n : Nat) (x : V) : Option Blk := some ([.int .i64 5, .int .i64 0, .str [], .sl 4 0 n false, x], tJ)
def stOb0 (t : List UInt8) (i0 : Int) (bad : Bool) (room : Int) (K : List (List UInt8)) (m : List (List UInt8 × J)) (i : Int) : St := ⟨mkTm 36 [(4, .ptr 1 0), (5, .ptr 2 0), (6, .ptr 3 0), (18, .sl 4 0 K.length false), (19, .int .i64 K.length), (20, .int .i64 i)], [rdI t i0 bad room, zJ, mcB 5, ob2 K.length (.osl tJ 0 false []), some ([.sld (encs encStr K)], tStr), mpB m], [0]⟩
def stOb1 (t : List UInt8) (i0 : Int) (bad : Bool) (room : Int) (K : List (List UInt8)) (m : List (List UInt8 × J)) (L : List J) (i : Int) : St := ⟨mkTm 36 [(4, .ptr 1 0), (5, .ptr 2 0), (6, .ptr 3 0), (18, .sl 4 0 K.length false), (19, .int .i64 K.length), (20, .int .i64 i)], [rdI t i0 bad room, zJ, mcB 5, ob2 K.length (.sl 6 0 L.length false), some ([.sld (encs encStr K)], tStr), mpB m, some ([.sld (encs encJ L)], tJ)], [0]⟩
def nfOb : Ex → Kp := fun ex => match ex with
 | .normal => { keep := [4, 5, 6, 18, 19, 20], wr := [0] }
 | _ => { keep := [4, 6], wr := [0] }
noncomputable def EOb : Env := { P := Tryz.prog, vw := vwA, res := fun _ _ _ => none, mp := mpKV }
--FOLD vwJ rdI prB dpB rsB mcB obB mpB zJ
set_option maxRecDepth 100000 in
theorem obL0 (t : List UInt8) (i0 : Int) (bad : Bool) (room : Int) (K : List (List UInt8)) (m : List (List UInt8 × J)) (i : Int) : bodyT EOb 1 nfOb (lp Tryz.prog fObj 0) (stOb0 t i0 bad room K m i) =
 bif decide (i < (↑(List.length K) : Int)) then
 T.need [(0 : Int) ≤ i ∧ i < (↑(List.length K) : Int)]
 (T.need [List.take 1 (List.drop (0 + Int.toNat i * 1) (encs encStr K)) = [V.str (List.getD (decL encStr (encs encStr K)) ((0 + Int.toNat i * 1) / 1) [])]]
 (T.bind (MLk.v (MLk.mk (kvGet (List.getD (decL encStr (encs encStr K)) ((0 + Int.toNat i * 1) / 1) []) (decL encKV (encs encKV m))) fun y => (Option.isSome y, V.agg (vwO y)))) fun y0 =>
 T.need
 [(Option.isSome y0 = true →
 KFind (V.str (List.getD (decL encStr (encs encStr K)) ((0 + Int.toNat i * 1) / 1) [])) (encs encKV m) =
 some
 (some
 (V.agg
 [V.int IntKind.i64 (J.kind (Option.getD y0 (J.mk (0 : Int) (0 : Int) [] [] []))), V.int IntKind.i64 (J.n (Option.getD y0 (J.mk (0 : Int) (0 : Int) [] [] []))),
 V.str (J.t (Option.getD y0 (J.mk (0 : Int) (0 : Int) [] [] []))),
 V.dsl (List.length (J.keys (Option.getD y0 (J.mk (0 : Int) (0 : Int) [] [] [])))) (!Option.isSome y0) (encs encStr (J.keys (Option.getD y0 (J.mk (0 : Int) (0 : Int) [] [] [])))),
 V.dsl (List.length (J.items (Option.getD y0 (J.mk (0 : Int) (0 : Int) [] [] [])))) (!Option.isSome y0) (encs encJ (J.items (Option.getD y0 (J.mk (0 : Int) (0 : Int) [] [] []))))]))) ∧
 (Option.isSome y0 = false →
 KFind (V.str (List.getD (decL encStr (encs encStr K)) ((0 + Int.toNat i * 1) / 1) [])) (encs encKV m) = some none ∧
 V.agg
 [V.int IntKind.i64 (J.kind (Option.getD y0 (J.mk (0 : Int) (0 : Int) [] [] []))), V.int IntKind.i64 (J.n (Option.getD y0 (J.mk (0 : Int) (0 : Int) [] [] []))),
 V.str (J.t (Option.getD y0 (J.mk (0 : Int) (0 : Int) [] [] []))),
 V.dsl (List.length (J.keys (Option.getD y0 (J.mk (0 : Int) (0 : Int) [] [] [])))) (!Option.isSome y0) (encs encStr (J.keys (Option.getD y0 (J.mk (0 : Int) (0 : Int) [] [] [])))),
 V.dsl (List.length (J.items (Option.getD y0 (J.mk (0 : Int) (0 : Int) [] [] [])))) (!Option.isSome y0) (encs encJ (J.items (Option.getD y0 (J.mk (0 : Int) (0 : Int) [] [] []))))] =
 V.agg [V.int IntKind.i64 (0 : Int), V.int IntKind.i64 (0 : Int), V.str [], V.dsl 0 true [], V.dsl 0 true []])]
 (T.need [0 = 0, 0 = 0, 1 ≤ 9223372036854775807, 80 ≤ 140737488355328]
 (T.need [(0 : Int) ≤ (0 : Int) ∧ (0 : Int) < (1 : Int)]
 (T.need [0 = 0]
 (T.done
 (Ex.normal,
 St.mk
 (mkTm 36
 [(4, V.ptr 1 0), (5, V.ptr 2 0), (6, V.ptr 3 0), (18, V.sl 4 0 (List.length K) false),
 (19, V.int IntKind.i64 (↑(List.length K) : Int)), (20, V.int IntKind.i64 (IntKind.wrap IntKind.i64 (i + (1 : Int))))])
 [rdI t i0 bad room, zJ, mcB 5,
 some ([V.int IntKind.i64 (5 : Int), V.int IntKind.i64 (0 : Int), V.str [], V.sl 4 0 (List.length K) false, V.sl 6 0 1 false], 25),
 some ([V.sld (encs encStr K)], 9), mpB m, some ([V.sld (vwJ (Option.getD y0 (J.mk (0 : Int) (0 : Int) [] [] [])))], 25)]
 [0])))))))
 else
 T.done
 (Ex.exit 0,
 St.mk (mkTm 36 [(4, V.ptr 1 0), (6, V.ptr 2 0)])
 [rdI t i0 bad room, zJ, some ([V.int IntKind.i64 (5 : Int), V.int IntKind.i64 (0 : Int), V.str [], V.sl 3 0 (List.length K) false, V.osl 25 0 false []], 25),
 some ([V.sld (encs encStr K)], 9)]
 [0]) := by kernel_rfl
set_option maxRecDepth 100000 in
theorem obL1 (t : List UInt8) (i0 : Int) (bad : Bool) (room : Int) (K : List (List UInt8)) (m : List (List UInt8 × J)) (L : List J) (i : Int) : bodyT EOb 1 nfOb (lp Tryz.prog fObj 0) (stOb1 t i0 bad room K m L i) =
 bif decide (i < (↑(List.length K) : Int)) then
 T.need [(0 : Int) ≤ i ∧ i < (↑(List.length K) : Int)]
 (T.need [List.take 1 (List.drop (0 + Int.toNat i * 1) (encs encStr K)) = [V.str (List.getD (decL encStr (encs encStr K)) ((0 + Int.toNat i * 1) / 1) [])]]
 (T.bind (MLk.v (MLk.mk (kvGet (List.getD (decL encStr (encs encStr K)) ((0 + Int.toNat i * 1) / 1) []) (decL encKV (encs encKV m))) fun y => (Option.isSome y, V.agg (vwO y)))) fun y0 =>
 T.need
 [(Option.isSome y0 = true →
 KFind (V.str (List.getD (decL encStr (encs encStr K)) ((0 + Int.toNat i * 1) / 1) [])) (encs encKV m) =
 some
 (some
 (V.agg
 [V.int IntKind.i64 (J.kind (Option.getD y0 (J.mk (0 : Int) (0 : Int) [] [] []))), V.int IntKind.i64 (J.n (Option.getD y0 (J.mk (0 : Int) (0 : Int) [] [] []))),
 V.str (J.t (Option.getD y0 (J.mk (0 : Int) (0 : Int) [] [] []))),
 V.dsl (List.length (J.keys (Option.getD y0 (J.mk (0 : Int) (0 : Int) [] [] [])))) (!Option.isSome y0) (encs encStr (J.keys (Option.getD y0 (J.mk (0 : Int) (0 : Int) [] [] [])))),
 V.dsl (List.length (J.items (Option.getD y0 (J.mk (0 : Int) (0 : Int) [] [] [])))) (!Option.isSome y0) (encs encJ (J.items (Option.getD y0 (J.mk (0 : Int) (0 : Int) [] [] []))))]))) ∧
 (Option.isSome y0 = false →
 KFind (V.str (List.getD (decL encStr (encs encStr K)) ((0 + Int.toNat i * 1) / 1) [])) (encs encKV m) = some none ∧
 V.agg
 [V.int IntKind.i64 (J.kind (Option.getD y0 (J.mk (0 : Int) (0 : Int) [] [] []))), V.int IntKind.i64 (J.n (Option.getD y0 (J.mk (0 : Int) (0 : Int) [] [] []))),
 V.str (J.t (Option.getD y0 (J.mk (0 : Int) (0 : Int) [] [] []))),
 V.dsl (List.length (J.keys (Option.getD y0 (J.mk (0 : Int) (0 : Int) [] [] [])))) (!Option.isSome y0) (encs encStr (J.keys (Option.getD y0 (J.mk (0 : Int) (0 : Int) [] [] [])))),
 V.dsl (List.length (J.items (Option.getD y0 (J.mk (0 : Int) (0 : Int) [] [] [])))) (!Option.isSome y0) (encs encJ (J.items (Option.getD y0 (J.mk (0 : Int) (0 : Int) [] [] []))))] =
 V.agg [V.int IntKind.i64 (0 : Int), V.int IntKind.i64 (0 : Int), V.str [], V.dsl 0 true [], V.dsl 0 true []])]
 (T.need
 [0 = 0, List.length (encs encJ L) = List.length L * 5, List.length L + 1 ≤ 9223372036854775807, (List.length L + 1) * 80 ≤ 140737488355328]
 (T.need [(0 : Int) ≤ (↑(List.length L) : Int) ∧ (↑(List.length L) : Int) < (↑(List.length L + 1) : Int)]
 (T.need [List.length (encs encJ L) = 0 + Int.toNat (↑(List.length L) : Int) * 5]
 (T.done
 (Ex.normal,
 St.mk
 (mkTm 36
 [(4, V.ptr 1 0), (5, V.ptr 2 0), (6, V.ptr 3 0), (18, V.sl 4 0 (List.length K) false),
 (19, V.int IntKind.i64 (↑(List.length K) : Int)), (20, V.int IntKind.i64 (IntKind.wrap IntKind.i64 (i + (1 : Int))))])
 [rdI t i0 bad room, zJ, mcB 5,
 some ([V.int IntKind.i64 (5 : Int), V.int IntKind.i64 (0 : Int), V.str [], V.sl 4 0 (List.length K) false, V.sl 6 0 (List.length L + 1) false], 25),
 some ([V.sld (encs encStr K)], 9), mpB m,
 some
 ([V.sld
 (encs encJ L ++
 [V.int IntKind.i64 (J.kind (Option.getD y0 (J.mk (0 : Int) (0 : Int) [] [] []))), V.int IntKind.i64 (J.n (Option.getD y0 (J.mk (0 : Int) (0 : Int) [] [] []))),
 V.str (J.t (Option.getD y0 (J.mk (0 : Int) (0 : Int) [] [] []))),
 V.dsl (List.length (J.keys (Option.getD y0 (J.mk (0 : Int) (0 : Int) [] [] [])))) false (encs encStr (J.keys (Option.getD y0 (J.mk (0 : Int) (0 : Int) [] [] [])))),
 V.dsl (List.length (J.items (Option.getD y0 (J.mk (0 : Int) (0 : Int) [] [] [])))) false (encs encJ (J.items (Option.getD y0 (J.mk (0 : Int) (0 : Int) [] [] []))))])],
 25)]
 [0])))))))
 else
 T.done
 (Ex.exit 0,
 St.mk (mkTm 36 [(4, V.ptr 1 0), (6, V.ptr 2 0)])
 [rdI t i0 bad room, zJ, some ([V.int IntKind.i64 (5 : Int), V.int IntKind.i64 (0 : Int), V.str [], V.sl 3 0 (List.length K) false, V.sl 4 0 (List.length L) false], 25),
 some ([V.sld (encs encStr K)], 9), some ([V.sld (encs encJ L)], 25)]
 [0]) := by kernel_rfl
def gKV (m : List (List UInt8 × J)) (k : List UInt8) : J := (kvGet k m).getD J.zero
def stObx (t : List UInt8) (i0 : Int) (bad : Bool) (room : Int) (K : List (List UInt8)) (L : List J) : St := ⟨mkTm 36 [(4, .ptr 1 0), (6, .ptr 2 0)], [rdI t i0 bad room, zJ, some ([.int .i64 5, .int .i64 0, .str [], .sl 3 0 K.length false, .sl 4 0 L.length false], tJ), some ([.sld (encs encStr K)], tStr), some ([.sld (encs encJ L)], tJ)], [0]⟩
def stObz (t : List UInt8) (i0 : Int) (bad : Bool) (room : Int) (K : List (List UInt8)) : St := ⟨mkTm 36 [(4, .ptr 1 0), (6, .ptr 2 0)], [rdI t i0 bad room, zJ, some ([.int .i64 5, .int .i64 0, .str [], .sl 3 0 K.length false, .osl tJ 0 false []], tJ), some ([.sld (encs encStr K)], tStr)], [0]⟩
theorem key_at {K : List (List UInt8)} {i : Nat} (h : i < K.length) : List.take 1 (List.drop (0 + i * 1) (encs encStr K)) = [V.str (K.getD i [])] ∧ (0 + i * 1) / 1 = i := by
 have := layStr.at K [] i 1 h rfl
 exact ⟨by simpa [encStr] using this, by omega⟩
theorem ob1_loop (t : List UInt8) (i0 : Int) (bad : Bool) (room : Int) (K : List (List UInt8)) (m : List (List UInt8 × J)) (hK : K.length ≤ 1000000) : ∀ (n : Nat) (L : List J) (i : Nat), i + n = K.length → L.length = i →
  LoopTo Tryz.prog 1 (lp Tryz.prog fObj 0) (stOb1 t i0 bad room K m L i) (.exit 0) (stObx t i0 bad room K (L ++ (K.drop i).map (gKV m)))
 | 0, L, i, h1, h2 => by
  obtain rfl : i = K.length := h1
  refine loopT (E := EOb) follows named (obL1 t i0 bad room K m L _) ?_
  simp only [WP_cond, T.WP, All, decide_eq_true_eq, decide_eq_false_iff_not, and_true]
  refine ⟨fun h => by omega, fun _ => ⟨rfl, ?_⟩⟩
  rw [List.drop_length]
  simp [stObx]
 | n + 1, L, i, h1, h2 => by
  refine loopT (E := EOb) follows named (obL1 t i0 bad room K m L _) ?_
  obtain ⟨q1, q2⟩ := key_at (K := K) (i := i) (by omega)
  simp only [WP_cond, T.WP, All, decide_eq_true_eq, decide_eq_false_iff_not, and_true, layStr.decL, decKV, Int.toNat_natCast, q2, layJ.length, show J.mk 0 0 [] [] [] = J.zero from rfl]
  refine ⟨fun _ => ⟨by omega, q1, ?_⟩, fun h => by omega⟩
  rintro y rfl
  have f1 := kvGet_find (K.getD i []) m
  rw [f1]
  have ih := ob1_loop t i0 bad room K m hK n (L ++ [gKV m (K.getD i [])]) (i + 1) (by omega) (by simp [h2])
  have ed : K.drop i = K.getD i [] :: K.drop (i + 1) := by rw [List.getD_eq_getElem?_getD, List.getElem?_eq_getElem (by omega)]; exact List.drop_eq_getElem_cons (by omega)
  rw [ed, List.map_cons]
  rw [List.append_assoc, List.singleton_append] at ih
  have es : stOb1 t i0 bad room K m (L ++ [gKV m (K.getD i [])]) ((i + 1 : Nat) : Int) = ⟨mkTm 36 [(4, .ptr 1 0), (5, .ptr 2 0), (6, .ptr 3 0), (18, .sl 4 0 K.length false), (19, .int .i64 K.length), (20, .int .i64 (IntKind.wrap .i64 ((i : Int) + 1)))], [rdI t i0 bad room, zJ, mcB 5, ob2 K.length (.sl 6 0 (L.length + 1) false), some ([.sld (encs encStr K)], tStr), mpB m, some ([.sld (flatC (.sld (encs encJ L) :: vwJ (gKV m (K.getD i []))))], tJ)], [0]⟩ := by
   rw [flatC_snoc, wrap_id (by omega)]; simp [stOb1]
  rw [es] at ih
  cases hk : kvGet (K.getD i []) m with
  | none =>
   simp only [Option.isSome_none, Option.map_none, Bool.false_eq_true, false_implies, true_and, forall_const, Option.getD_none, Bool.not_false]
   have eg : gKV m (K.getD i []) = J.zero := by unfold gKV; rw [hk]; rfl
   rw [eg] at ih ⊢
   exact ⟨rfl, ⟨by omega, by omega⟩, by omega, by omega, ih⟩
  | some j =>
   simp only [Option.isSome_some, Option.map_some, false_implies, true_and, and_true, forall_const, Option.getD_some, Bool.not_true, reduceCtorEq]
   have eg : gKV m (K.getD i []) = j := by unfold gKV; rw [hk]; rfl
   rw [eg] at ih ⊢
   exact ⟨rfl, ⟨by omega, by omega⟩, by omega, by omega, ih⟩
theorem ob0_step (t : List UInt8) (i0 : Int) (bad : Bool) (room : Int) (K : List (List UInt8)) (m : List (List UInt8 × J)) (hK : K.length ≤ 1000000) (h0 : 0 < K.length) :
  LoopTo Tryz.prog 1 (lp Tryz.prog fObj 0) (stOb0 t i0 bad room K m 0) (.exit 0) (stObx t i0 bad room K (K.map (gKV m))) := by
 refine loopT (E := EOb) follows named (obL0 t i0 bad room K m 0) ?_
 obtain ⟨q1, q2⟩ := key_at (K := K) (i := 0) h0
 simp only [WP_cond, T.WP, All, decide_eq_true_eq, decide_eq_false_iff_not, and_true, layStr.decL, decKV, show (0 : Int).toNat = 0 from rfl, q2, show J.mk 0 0 [] [] [] = J.zero from rfl]
 refine ⟨fun _ => ⟨by omega, q1, ?_⟩, fun h => by omega⟩
 rintro y rfl
 have f1 := kvGet_find (K.getD 0 []) m
 rw [f1]
 have ih := ob1_loop t i0 bad room K m hK (K.length - 1) [gKV m (K.getD 0 [])] 1 (by omega) rfl
 have ed : K = K.getD 0 [] :: K.drop 1 := by
  cases K with
  | nil => simp at h0
  | cons k K => rfl
 have e2 : [gKV m (K.getD 0 [])] ++ List.map (gKV m) (K.drop 1) = K.map (gKV m) := by
  conv => rhs; rw [ed]
  rfl
 rw [e2] at ih
 have es : stOb1 t i0 bad room K m [gKV m (K.getD 0 [])] ((1 : Nat) : Int) = ⟨mkTm 36 [(4, .ptr 1 0), (5, .ptr 2 0), (6, .ptr 3 0), (18, .sl 4 0 K.length false), (19, .int .i64 K.length), (20, .int .i64 (IntKind.wrap .i64 ((0 : Int) + 1)))], [rdI t i0 bad room, zJ, mcB 5, ob2 K.length (.sl 6 0 1 false), some ([.sld (encs encStr K)], tStr), mpB m, some ([.sld (vwJ (gKV m (K.getD 0 [])))], tJ)], [0]⟩ := by
  rw [wrap_id (by omega), ← encJ_vw]; simp [stOb1, encs]
 rw [es] at ih
 cases hk : kvGet (K.getD 0 []) m with
 | none =>
  simp only [Option.isSome_none, Option.map_none, Bool.false_eq_true, false_implies, true_and, forall_const, Option.getD_none, Bool.not_false]
  have eg : gKV m (K.getD 0 []) = J.zero := by unfold gKV; rw [hk]; rfl
  rw [eg] at ih
  exact ⟨rfl, ⟨by omega, by omega⟩, by omega, ih⟩
 | some j =>
  simp only [Option.isSome_some, Option.map_some, false_implies, true_and, and_true, forall_const, Option.getD_some, Bool.not_true, reduceCtorEq]
  have eg : gKV m (K.getD 0 []) = j := by unfold gKV; rw [hk]; rfl
  rw [eg] at ih
  exact ⟨rfl, ⟨by omega, by omega⟩, by omega, ih⟩
theorem ob0_nil (t : List UInt8) (i0 : Int) (bad : Bool) (room : Int) (K : List (List UInt8)) (m : List (List UInt8 × J)) (h0 : K.length = 0) :
  LoopTo Tryz.prog 1 (lp Tryz.prog fObj 0) (stOb0 t i0 bad room K m 0) (.exit 0) (stObz t i0 bad room K) := by
 refine loopT (E := EOb) follows named (obL0 t i0 bad room K m 0) ?_
 simp only [WP_cond, T.WP, All, decide_eq_true_eq, decide_eq_false_iff_not, and_true]
 exact ⟨fun h => by omega, fun _ => ⟨rfl, rfl⟩⟩
noncomputable def resObj (val : RS → J × RS) : ResT := fun f vs hp => match vs, hp with
 | [.ptr 0 0, .str e, .fn _ [.ptr 1 0, .ptr 2 0, .ptr 3 0, .ptr 4 0]], [some ([.str t, .int _ i, .bool bad, .int _ room], _), some _, some ([.int _ d], _), some _, some _, some _] =>
  bif Nat.beq f fParts then some ⟨partsE e (objStep val) ⟨t.drop i.toNat, bad, room⟩ ⟨[], []⟩, fun y => ⟨.tup [], [rsB t y.1, prB 0, dpB d, mcB 5, obB y.2.ks, mpB y.2.m], [0, 4, 5]⟩⟩ else none
 | [.sl 0 0 _ _], [some ([.sld cs], _)] => bif Nat.beq f fSort then some ⟨srt (decL encStr cs), fun y => ⟨.tup [], [some ([.sld (encs encStr y)], tStr)], [0]⟩⟩ else none
 | _, _ => none
noncomputable def lsOb : Nat → St → Option LRes := fun id s => match id, s.hp with
 | 0, some ([.str t, .int _ i, .bool bad, .int _ room], _) :: _ :: _ :: _ :: some ([.sld (_ :: mc)], _) :: _ :: _ :: some ([.sld cs], _) :: _ =>
  some ⟨(), fun _ => .two { keep := [4, 5, 6, 18, 19, 20], wr := [0] } (stOb0 t i bad room (decL encStr cs) (decL encKV mc) 0) (Nat.beq (decL encStr cs).length 0) (.exit 0) (stObz t i bad room (decL encStr cs)) (.exit 0) (stObx t i bad room (decL encStr cs) ((decL encStr cs).map (gKV (decL encKV mc))))⟩
 | _, _ => none
set_option maxRecDepth 100000 in
theorem objT (val : RS → J × RS) (t : List UInt8) (d i : Int) (bad : Bool) (room : Int) : fnT { P := Tryz.prog, vw := vwA, res := resObj val, ls := lsOb } 0 fObj [.ptr 0 0, .int .i64 d] [rdI t i bad room] = (
 .bind (partsE [(125 : UInt8)] (objStep val) (RS.mk (List.drop (Int.toNat i) t) bad room) (KM.mk [] [])) fun y0 => .need [FnOK Tryz.prog 75 [.ptr 0 0, .str [125], .fn 98 [.ptr 1 0, .ptr 2 0, .ptr 3 0, .ptr 4 0]] [rdI t i bad room, prB 0, dpB
 d, mcB 5, some ([.int .i64 5, .int .i64 0, .str [], .dsl 0 true [], .dsl 0 true []], 25), some ([.sld [.slo []]], 4294967291)] (Ret.mk (.tup []) [rdI t (↑(pos' t (RS.s y0.1)) : Int) (RS.bad y0.1) (RS.room y0.1), prB 0, dpB d, mcB 5, obB
 (KM.ks y0.2), mpB (KM.m y0.2)] [0, 4, 5])] (.bind (srt (decL encStr (encs encStr (KM.ks y0.2)))) fun y1 => .need [FnOK Tryz.prog 99 [.sl 0 0 (List.length (KM.ks y0.2)) false] [some ([.sld (encs encStr (KM.ks y0.2))], 9)] (Ret.mk (.tup [])
 [some ([.sld (encs encStr y1)], 9)] [0])] (.bind PUnit.unit fun _ => .need [St.mk (mkTm 36 [(4, .ptr 1 0), (5, .ptr 2 0), (6, .ptr 3 0), (18, .sl 4 0 (List.length (KM.ks y0.2)) false), (19, .int .i64 (↑(List.length (KM.ks y0.2)) : Int)),
 (20, .int .i64 0)]) [rdI t (↑(pos' t (RS.s y0.1)) : Int) (RS.bad y0.1) (RS.room y0.1), zJ, mcB 5, some ([.int .i64 5, .int .i64 0, .str [], .sl 4 0 (List.length (KM.ks y0.2)) false, .osl 25 0 false []], 25), some ([.sld (encs encStr y1)],
 9), mpB (KM.m y0.2)] [0] = St.mk (mkTm 36 [(4, .ptr 1 0), (5, .ptr 2 0), (6, .ptr 3 0), (18, .sl 4 0 (List.length (decL encStr (encs encStr y1))) false), (19, .int .i64 (↑(List.length (decL encStr (encs encStr y1))) : Int)), (20, .int .i64
 0)]) [rdI t (↑(pos' t (RS.s y0.1)) : Int) (RS.bad y0.1) (RS.room y0.1), zJ, mcB 5, some ([.int .i64 5, .int .i64 0, .str [], .sl 4 0 (List.length (decL encStr (encs encStr y1))) false, .osl 25 0 false []], 25), some ([.sld (encs encStr
 (decL encStr (encs encStr y1)))], 9), mpB (decL encKV (encs encKV (KM.m y0.2)))] [0]] (bif Nat.beq (List.length (decL encStr (encs encStr y1))) 0 then .need [SoundC Tryz.prog 1 (blk Tryz.prog fObj 0) (St.mk (mkTm 36 [(4, .ptr 1 0), (5, .ptr
 2 0), (6, .ptr 3 0), (18, .sl 4 0 (List.length (decL encStr (encs encStr y1))) false), (19, .int .i64 (↑(List.length (decL encStr (encs encStr y1))) : Int)), (20, .int .i64 0)]) [rdI t (↑(pos' t (RS.s y0.1)) : Int) (RS.bad y0.1) (RS.room
 y0.1), zJ, mcB 5, some ([.int .i64 5, .int .i64 0, .str [], .sl 4 0 (List.length (decL encStr (encs encStr y1))) false, .osl 25 0 false []], 25), some ([.sld (encs encStr (decL encStr (encs encStr y1)))], 9), mpB (decL encKV (encs encKV
 (KM.m y0.2)))] [0]) (Ex.exit 0) (St.mk (mkTm 36 [(4, .ptr 1 0), (6, .ptr 2 0)]) [rdI t (↑(pos' t (RS.s y0.1)) : Int) (RS.bad y0.1) (RS.room y0.1), zJ, some ([.int .i64 5, .int .i64 0, .str [], .sl 3 0 (List.length (decL encStr (encs encStr
 y1))) false, .osl 25 0 false []], 25), some ([.sld (encs encStr (decL encStr (encs encStr y1)))], 9)] [0])] (.done (Ret.mk (.agg [.int .i64 5, .int .i64 0, .str [], .dsl (List.length (decL encStr (encs encStr y1))) false (encs encStr (decL
 encStr (encs encStr y1))), .dsl 0 false []]) [rdI t (↑(pos' t (RS.s y0.1)) : Int) (RS.bad y0.1) (RS.room y0.1)] [0])) else .need [SoundC Tryz.prog 1 (blk Tryz.prog fObj 0) (St.mk (mkTm 36 [(4, .ptr 1 0), (5, .ptr 2 0), (6, .ptr 3 0), (18,
 .sl 4 0 (List.length (decL encStr (encs encStr y1))) false), (19, .int .i64 (↑(List.length (decL encStr (encs encStr y1))) : Int)), (20, .int .i64 0)]) [rdI t (↑(pos' t (RS.s y0.1)) : Int) (RS.bad y0.1) (RS.room y0.1), zJ, mcB 5, some
 ([.int .i64 5, .int .i64 0, .str [], .sl 4 0 (List.length (decL encStr (encs encStr y1))) false, .osl 25 0 false []], 25), some ([.sld (encs encStr (decL encStr (encs encStr y1)))], 9), mpB (decL encKV (encs encKV (KM.m y0.2)))] [0])
 (Ex.exit 0) (St.mk (mkTm 36 [(4, .ptr 1 0), (6, .ptr 2 0)]) [rdI t (↑(pos' t (RS.s y0.1)) : Int) (RS.bad y0.1) (RS.room y0.1), zJ, some ([.int .i64 5, .int .i64 0, .str [], .sl 3 0 (List.length (decL encStr (encs encStr y1))) false, .sl 4 0
 (List.length (List.map (gKV (decL encKV (encs encKV (KM.m y0.2)))) (decL encStr (encs encStr y1)))) false], 25), some ([.sld (encs encStr (decL encStr (encs encStr y1)))], 9), some ([.sld (encs encJ (List.map (gKV (decL encKV (encs encKV
 (KM.m y0.2)))) (decL encStr (encs encStr y1))))], 25)] [0])] (.done (Ret.mk (.agg [.int .i64 5, .int .i64 0, .str [], .dsl (List.length (decL encStr (encs encStr y1))) false (encs encStr (decL encStr (encs encStr y1))), .dsl (List.length
 (List.map (gKV (decL encKV (encs encKV (KM.m y0.2)))) (decL encStr (encs encStr y1)))) false (encs encJ (List.map (gKV (decL encKV (encs encKV (KM.m y0.2)))) (decL encStr (encs encStr y1))))]) [rdI t (↑(pos' t (RS.s y0.1)) : Int) (RS.bad
 y0.1) (RS.room y0.1)] [0]))))) : T _) := (T.force_eq _).symm.trans (by kernel_rfl)
theorem partsL_size {α : Type} {e : List UInt8} {f : RS → α → RS × α} (z : α → Nat) (hf : ∀ r a, ROut r (f r a).1) (hz : ∀ r a, z (f r a).2 ≤ z a + 1) : ∀ (n : Nat) (r : RS) (a : α), z (partsL e f n r a).2 ≤ z a + r.s.length + 1
 | 0, r, a => by show z a ≤ _; omega
 | n + 1, ⟨s, true, room⟩, a => by rw [partsL_bad]; show z a ≤ _; omega
 | n + 1, ⟨s, false, room⟩, a => by
  rw [partsL_on _ _ _ _ rfl]
  have h1 := hf ⟨s, false, room⟩ a
  have h2 := hz ⟨s, false, room⟩ a
  have l1 := h1.suf.length_le
  have ih := partsL_size (e := e) z hf hz n (((f ⟨s, false, room⟩ a).1.tk e).2.want [44]) (f ⟨s, false, room⟩ a).2
  generalize f ⟨s, false, room⟩ a = y at *
  cases (y.1.tk e).1 with
  | true => show z y.2 ≤ _; omega
  | false =>
   simp only [cond_false]
   have l2 := (tk_suf y.1 e).length_le
   rcases want_on (y.1.tk e).2 [44] with h4 | ⟨h4, _⟩
   ·generalize hr : (y.1.tk e).2.want [44] = r3 at *
    obtain ⟨s3, b3, m3⟩ := r3
    simp only at h4
    subst h4
    rw [partsL_bad]; show z y.2 ≤ _; omega
   ·simp only [List.length_singleton] at h4 l1 ⊢
    omega
theorem partsE_size {α : Type} {e : List UInt8} {f : RS → α → RS × α} (z : α → Nat) (hf : ∀ r a, ROut r (f r a).1) (hz : ∀ r a, z (f r a).2 ≤ z a + 1) (r : RS) (a : α) : z (partsE e f r a).2 ≤ z a + r.s.length + 1 := by
 unfold partsE
 have h := (tk_suf r e).length_le
 cases (r.tk e).1 with
 | true => show z a ≤ _; omega
 | false =>
  simp only [cond_false]
  have := partsL_size (e := e) z hf hz ((r.tk e).2.s.length + 2) (r.tk e).2 a
  omega
theorem object_ok {t : List UInt8} {d : Int} {val : RS → J × RS} (ht : t.length ≤ 500000) (hd : 0 ≤ d ∧ d ≤ 1000) (hV : ValOK t (d + 1) val) (r : RS) (hr : RIn t r) :
  FnOK Tryz.prog fObj [.ptr 0 0, .int .i64 d] [rsB t r] ⟨.agg (vwJ (objJ (partsE [125] (objStep val) r ⟨[], []⟩).2)), [rsB t (partsE [125] (objStep val) r ⟨[], []⟩).1], [0]⟩ := by
 refine fnOK_TL (E := { P := Tryz.prog, vw := vwA, res := resObj val, ls := lsOb }) follows named (objT val t d (pos' t r.s : Nat) r.bad r.room) (by simp) ?_
 simp only [WP_cond, T.WP, All, and_true, rs_eta hr.suf, layStr.decL, decKV]
 have hks := partsE_size (e := [125]) (fun a : KM => a.ks.length) (fun r a => objStep_out hV.out r a) (fun r a => by rw [objStep_len]; omega) r ⟨[], []⟩
 have hp := partsObj_nil (e := [125]) (by omega) hd hV r hr
 have hsuf := hr.suf.length_le
 generalize partsE [125] (objStep val) r ⟨[], []⟩ = y0 at *
 simp only [List.length_nil, Nat.zero_add] at hks
 intro y0 hy
 subst hy
 refine ⟨hp, ?_⟩
 rintro y1 rfl
 have hsl : (srt y0.2.ks).length = y0.2.ks.length := by simp [srt]
 refine ⟨sort_ok _ _ (by omega), ?_⟩
 rintro - -
 refine ⟨by rw [hsl], fun h => ?_, fun h => ?_⟩
 ·have h : (srt y0.2.ks).length = 0 := Nat.eq_of_beq_eq_true h
  refine ⟨.loopTo (ob0_nil _ _ _ _ _ _ h), ?_, rfl, by simp⟩
  have e : srt y0.2.ks = [] := List.eq_nil_of_length_eq_zero h
  simp [objJ, e, vwJ, J.kind, J.n, J.t, J.keys, J.items, encs]
 ·have h0 : 0 < (srt y0.2.ks).length := by
   rcases Nat.eq_zero_or_pos (srt y0.2.ks).length with h1 | h1
   ·rw [h1] at h; cases h
   ·exact h1
  exact ⟨.loopTo (ob0_step _ _ _ _ _ _ (by omega) h0), rfl, rfl, by simp⟩
end Go.Proofs.YtfncaghjfgnnhaaGreatDoor

namespace Go.Proofs.YtfncaghjfgnnhaaGreatDoor
open Go.RowKit
set_option maxRecDepth 100000
noncomputable def resVal (val : RS → J × RS) : ResT := fun f vs hp => match vs, hp with
 | [.ptr 0 0], [some ([.str t, .int _ i, .bool bad, .int _ room], _)] =>
  bif Nat.beq f fSkip then some ⟨skp (t.drop i.toNat), fun y => ⟨.tup [], [rsB t ⟨y, bad, room⟩], [0]⟩⟩
  else bif Nat.beq f fText then some ⟨txtE bad (t.drop i.toNat), fun y => ⟨.str y.1, [rsB t ⟨y.2.2, y.2.1, room⟩], [0]⟩⟩
  else bif Nat.beq f fNumber then some ⟨(t.drop i.toNat, bad), fun y => ⟨.agg (vwJ (nmJ y.1)), [rsB t ⟨y.1.dropWhile nmC, nmB y.2 y.1, room⟩], [0]⟩⟩
  else none
 | [.ptr 0 0, .int _ _], [some ([.str t, .int _ i, .bool bad, .int _ room], _)] => bif Nat.beq f fObj then some ⟨partsE [125] (objStep val) ⟨t.drop i.toNat, bad, room⟩ ⟨[], []⟩, fun y => ⟨.agg (vwJ (objJ y.2)), [rsB t y.1], [0]⟩⟩ else none
 | [.ptr 0 0, .str e, .fn _ [.ptr 1 0, .ptr 2 0, .ptr 3 0]], [some ([.str t, .int _ i, .bool bad, .int _ room], _), some _, some _, some ([.int _ d], _)] =>
  bif Nat.beq f fParts then some ⟨partsE e (listStep val) ⟨t.drop i.toNat, bad, room⟩ [], fun y => ⟨.tup [], [rsB t y.1, lsB y.2, prB 0, dpB d], [0, 1]⟩⟩ else none
 | vs, hp => resRd f vs hp
noncomputable def EVal (val : RS → J × RS) : Env := { P := Tryz.prog, vw := vwA, res := resVal val }
--FOLD vwJ rdI prB dpB rsB
set_option maxRecDepth 100000 in
theorem valueT (val : RS → J × RS) (t : List UInt8) (d i : Int) (bad : Bool) (room : Int) : fnT (EVal val) 0 fVal [.ptr 0 0, .int .i64 d] [rdI t i bad room] = (
 bif decide (IntKind.wrap IntKind.i64 (room - 1) < 0) then .bind (skp (List.drop (Int.toNat i) t)) fun y0 => .need [FnOK Tryz.prog 48 [.ptr 0 0] [rdI t i true (IntKind.wrap IntKind.i64 (room - 1))] (Ret.mk (.tup []) [rdI t (↑(pos' t (RS.s
 (RS.mk y0 true (IntKind.wrap IntKind.i64 (room - 1))))) : Int) true (RS.room (RS.mk y0 true (IntKind.wrap IntKind.i64 (room - 1))))] [0])] (.done (Ret.mk (.agg [.int .i64 0, .int .i64 0, .str [], .dsl 0 false [], .dsl 0 false []]) [rdI t
 (↑(pos' t (RS.s (RS.mk y0 true (IntKind.wrap IntKind.i64 (room - 1))))) : Int) true (RS.room (RS.mk y0 true (IntKind.wrap IntKind.i64 (room - 1))))] [0])) else bif decide (d ≥ 12) then .bind (skp (List.drop (Int.toNat i) t)) fun y1 => .need
 [FnOK Tryz.prog 48 [.ptr 0 0] [rdI t i true (IntKind.wrap IntKind.i64 (room - 1))] (Ret.mk (.tup []) [rdI t (↑(pos' t (RS.s (RS.mk y1 true (IntKind.wrap IntKind.i64 (room - 1))))) : Int) true (RS.room (RS.mk y1 true (IntKind.wrap
 IntKind.i64 (room - 1))))] [0])] (.done (Ret.mk (.agg [.int .i64 0, .int .i64 0, .str [], .dsl 0 false [], .dsl 0 false []]) [rdI t (↑(pos' t (RS.s (RS.mk y1 true (IntKind.wrap IntKind.i64 (room - 1))))) : Int) true (RS.room (RS.mk y1 true
 (IntKind.wrap IntKind.i64 (room - 1))))] [0])) else .bind (skp (List.drop (Int.toNat i) t)) fun y2 => .need [FnOK Tryz.prog 48 [.ptr 0 0] [rdI t i bad (IntKind.wrap IntKind.i64 (room - 1))] (Ret.mk (.tup []) [rdI t (↑(pos' t (RS.s (RS.mk y2
 bad (IntKind.wrap IntKind.i64 (room - 1))))) : Int) (RS.bad (RS.mk y2 bad (IntKind.wrap IntKind.i64 (room - 1)))) (RS.room (RS.mk y2 bad (IntKind.wrap IntKind.i64 (room - 1))))] [0])] (bif RS.bad (RS.mk y2 bad (IntKind.wrap IntKind.i64
 (room - 1))) then .done (Ret.mk (.agg [.int .i64 0, .int .i64 0, .str [], .dsl 0 false [], .dsl 0 false []]) [rdI t (↑(pos' t (RS.s (RS.mk y2 bad (IntKind.wrap IntKind.i64 (room - 1))))) : Int) true (RS.room (RS.mk y2 bad (IntKind.wrap
 IntKind.i64 (room - 1))))] [0]) else bif (↑(pos' t (RS.s (RS.mk y2 bad (IntKind.wrap IntKind.i64 (room - 1))))) : Int) == (↑t.length : Int) then .done (Ret.mk (.agg [.int .i64 0, .int .i64 0, .str [], .dsl 0 false [], .dsl 0 false []]) [rdI
 t (↑(pos' t (RS.s (RS.mk y2 bad (IntKind.wrap IntKind.i64 (room - 1))))) : Int) true (RS.room (RS.mk y2 bad (IntKind.wrap IntKind.i64 (room - 1))))] [0]) else .bind (RS.tk (RS.mk (List.drop (Int.toNat (↑(pos' t (RS.s (RS.mk y2 bad
 (IntKind.wrap IntKind.i64 (room - 1))))) : Int)) t) (RS.bad (RS.mk y2 bad (IntKind.wrap IntKind.i64 (room - 1)))) (RS.room (RS.mk y2 bad (IntKind.wrap IntKind.i64 (room - 1))))) [(110 : UInt8), 117, 108, 108]) fun y3 => .need [FnOK
 Tryz.prog 73 [.ptr 0 0, .str [110, 117, 108, 108]] [rdI t (↑(pos' t (RS.s (RS.mk y2 bad (IntKind.wrap IntKind.i64 (room - 1))))) : Int) (RS.bad (RS.mk y2 bad (IntKind.wrap IntKind.i64 (room - 1)))) (RS.room (RS.mk y2 bad (IntKind.wrap
 IntKind.i64 (room - 1))))] (Ret.mk (.bool y3.1) [rdI t (↑(pos' t (RS.s y3.2)) : Int) (RS.bad y3.2) (RS.room y3.2)] [0])] (bif y3.1 then .done (Ret.mk (.agg [.int .i64 0, .int .i64 0, .str [], .dsl 0 false [], .dsl 0 false []]) [rdI t
 (↑(pos' t (RS.s y3.2)) : Int) (RS.bad y3.2) (RS.room y3.2)] [0]) else .bind (RS.tk (RS.mk (List.drop (Int.toNat (↑(pos' t (RS.s y3.2)) : Int)) t) (RS.bad y3.2) (RS.room y3.2)) [(116 : UInt8), 114, 117, 101]) fun y4 => .need [FnOK Tryz.prog
 73 [.ptr 0 0, .str [116, 114, 117, 101]] [rdI t (↑(pos' t (RS.s y3.2)) : Int) (RS.bad y3.2) (RS.room y3.2)] (Ret.mk (.bool y4.1) [rdI t (↑(pos' t (RS.s y4.2)) : Int) (RS.bad y4.2) (RS.room y4.2)] [0])] (bif y4.1 then .done (Ret.mk (.agg
 [.int .i64 1, .int .i64 1, .str [], .dsl 0 false [], .dsl 0 false []]) [rdI t (↑(pos' t (RS.s y4.2)) : Int) (RS.bad y4.2) (RS.room y4.2)] [0]) else .bind (RS.tk (RS.mk (List.drop (Int.toNat (↑(pos' t (RS.s y4.2)) : Int)) t) (RS.bad y4.2)
 (RS.room y4.2)) [(102 : UInt8), 97, 108, 115, 101]) fun y5 => .need [FnOK Tryz.prog 73 [.ptr 0 0, .str [102, 97, 108, 115, 101]] [rdI t (↑(pos' t (RS.s y4.2)) : Int) (RS.bad y4.2) (RS.room y4.2)] (Ret.mk (.bool y5.1) [rdI t (↑(pos' t (RS.s
 y5.2)) : Int) (RS.bad y5.2) (RS.room y5.2)] [0])] (bif y5.1 then .done (Ret.mk (.agg [.int .i64 1, .int .i64 0, .str [], .dsl 0 false [], .dsl 0 false []]) [rdI t (↑(pos' t (RS.s y5.2)) : Int) (RS.bad y5.2) (RS.room y5.2)] [0]) else .bind
 (RS.tk (RS.mk (List.drop (Int.toNat (↑(pos' t (RS.s y5.2)) : Int)) t) (RS.bad y5.2) (RS.room y5.2)) [(34 : UInt8)]) fun y6 => .need [FnOK Tryz.prog 73 [.ptr 0 0, .str [34]] [rdI t (↑(pos' t (RS.s y5.2)) : Int) (RS.bad y5.2) (RS.room y5.2)]
 (Ret.mk (.bool y6.1) [rdI t (↑(pos' t (RS.s y6.2)) : Int) (RS.bad y6.2) (RS.room y6.2)] [0])] (bif y6.1 then .bind (txtE (RS.bad y6.2) (List.drop (Int.toNat (↑(pos' t (RS.s y6.2)) : Int)) t)) fun y7 => .need [FnOK Tryz.prog 74 [.ptr 0 0]
 [rdI t (↑(pos' t (RS.s y6.2)) : Int) (RS.bad y6.2) (RS.room y6.2)] (Ret.mk (.str y7.1) [rdI t (↑(pos' t (RS.s (RS.mk (y7.2.2) (y7.2.1) (RS.room y6.2)))) : Int) (RS.bad (RS.mk (y7.2.2) (y7.2.1) (RS.room y6.2))) (RS.room (RS.mk (y7.2.2)
 (y7.2.1) (RS.room y6.2)))] [0])] (.done (Ret.mk (.agg [.int .i64 3, .int .i64 0, .str y7.1, .dsl 0 false [], .dsl 0 false []]) [rdI t (↑(pos' t (RS.s (RS.mk (y7.2.2) (y7.2.1) (RS.room y6.2)))) : Int) (RS.bad (RS.mk (y7.2.2) (y7.2.1)
 (RS.room y6.2))) (RS.room (RS.mk (y7.2.2) (y7.2.1) (RS.room y6.2)))] [0])) else .bind (RS.tk (RS.mk (List.drop (Int.toNat (↑(pos' t (RS.s y6.2)) : Int)) t) (RS.bad y6.2) (RS.room y6.2)) [(91 : UInt8)]) fun y8 => .need [FnOK Tryz.prog 73
 [.ptr 0 0, .str [91]] [rdI t (↑(pos' t (RS.s y6.2)) : Int) (RS.bad y6.2) (RS.room y6.2)] (Ret.mk (.bool y8.1) [rdI t (↑(pos' t (RS.s y8.2)) : Int) (RS.bad y8.2) (RS.room y8.2)] [0])] (bif y8.1 then .bind (partsE [(93 : UInt8)] (listStep
 val) (RS.mk (List.drop (Int.toNat (↑(pos' t (RS.s y8.2)) : Int)) t) (RS.bad y8.2) (RS.room y8.2)) []) fun y9 => .need [FnOK Tryz.prog 75 [.ptr 0 0, .str [93], .fn 76 [.ptr 1 0, .ptr 2 0, .ptr 3 0]] [rdI t (↑(pos' t (RS.s y8.2)) : Int)
 (RS.bad y8.2) (RS.room y8.2), some ([.int .i64 4, .int .i64 0, .str [], .dsl 0 true [], .dsl 0 true []], 25), prB 0, dpB d] (Ret.mk (.tup []) [rdI t (↑(pos' t (RS.s y9.1)) : Int) (RS.bad y9.1) (RS.room y9.1), some ([.int .i64 4, .int .i64
 0, .str [], .osl 9 0 false [], .osl 25 y9.2.length false (encs encJ y9.2)], 25), prB 0, dpB d] [0, 1])] (.done (Ret.mk (.agg [.int .i64 4, .int .i64 0, .str [], .dsl 0 false [], .dsl y9.2.length false (encs encJ y9.2)]) [rdI t (↑(pos' t
 (RS.s y9.1)) : Int) (RS.bad y9.1) (RS.room y9.1)] [0])) else .bind (RS.tk (RS.mk (List.drop (Int.toNat (↑(pos' t (RS.s y8.2)) : Int)) t) (RS.bad y8.2) (RS.room y8.2)) [(123 : UInt8)]) fun y10 => .need [FnOK Tryz.prog 73 [.ptr 0 0, .str
 [123]] [rdI t (↑(pos' t (RS.s y8.2)) : Int) (RS.bad y8.2) (RS.room y8.2)] (Ret.mk (.bool y10.1) [rdI t (↑(pos' t (RS.s y10.2)) : Int) (RS.bad y10.2) (RS.room y10.2)] [0])] (bif y10.1 then .bind (partsE [(125 : UInt8)] (objStep val) (RS.mk
 (List.drop (Int.toNat (↑(pos' t (RS.s y10.2)) : Int)) t) (RS.bad y10.2) (RS.room y10.2)) (KM.mk [] [])) fun y11 => .need [FnOK Tryz.prog 77 [.ptr 0 0, .int .i64 d] [rdI t (↑(pos' t (RS.s y10.2)) : Int) (RS.bad y10.2) (RS.room y10.2)]
 (Ret.mk (.agg [.int .i64 5, .int .i64 0, .str (J.t (objJ y11.2)), .dsl (List.length (J.keys (objJ y11.2))) false (encs encStr (J.keys (objJ y11.2))), .dsl (List.length (J.items (objJ y11.2))) false (encs encJ (J.items (objJ y11.2)))]) [rdI
 t (↑(pos' t (RS.s y11.1)) : Int) (RS.bad y11.1) (RS.room y11.1)] [0])] (.done (Ret.mk (.agg [.int .i64 5, .int .i64 0, .str (J.t (objJ y11.2)), .dsl (List.length (J.keys (objJ y11.2))) false (encs encStr (J.keys (objJ y11.2))), .dsl
 (List.length (J.items (objJ y11.2))) false (encs encJ (J.items (objJ y11.2)))]) [rdI t (↑(pos' t (RS.s y11.1)) : Int) (RS.bad y11.1) (RS.room y11.1)] [0])) else .bind (List.drop (Int.toNat (↑(pos' t (RS.s y10.2)) : Int)) t, RS.bad y10.2)
 fun y12 => .need [FnOK Tryz.prog 78 [.ptr 0 0] [rdI t (↑(pos' t (RS.s y10.2)) : Int) (RS.bad y10.2) (RS.room y10.2)] (Ret.mk (.agg [.int .i64 2, .int .i64 (J.n (nmJ y12.1)), .str (J.t (nmJ y12.1)), .dsl 0 false [], .dsl 0 false []]) [rdI t
 (↑(pos' t (RS.s (RS.mk (List.dropWhile nmC y12.1) (nmB y12.2 y12.1) (RS.room y10.2)))) : Int) (RS.bad (RS.mk (List.dropWhile nmC y12.1) (nmB y12.2 y12.1) (RS.room y10.2))) (RS.room (RS.mk (List.dropWhile nmC y12.1) (nmB y12.2 y12.1)
 (RS.room y10.2)))] [0])] (.done (Ret.mk (.agg [.int .i64 2, .int .i64 (J.n (nmJ y12.1)), .str (J.t (nmJ y12.1)), .dsl 0 false [], .dsl 0 false []]) [rdI t (↑(pos' t (RS.s (RS.mk (List.dropWhile nmC y12.1) (nmB y12.2 y12.1) (RS.room
 y10.2)))) : Int) (RS.bad (RS.mk (List.dropWhile nmC y12.1) (nmB y12.2 y12.1) (RS.room y10.2))) (RS.room (RS.mk (List.dropWhile nmC y12.1) (nmB y12.2 y12.1) (RS.room y10.2)))] [0]))))))))) : T _) := by kernel_rfl
theorem skp_skp (s : List UInt8) : skp (skp s) = skp s := by
 unfold skp
 induction s with
 | nil => rfl
 | cons c s ih =>
  rw [List.dropWhile_cons]
  cases h : blkC c with
  | true => simpa [h] using ih
  | false => simp [h]
theorem tk_at {s : List UInt8} (hs : skp s = s) (room : Int) (p : List UInt8) : (RS.mk s false room).tk p = (pfx p s, ⟨bif pfx p s then s.drop p.length else s, false, room⟩) := by
 unfold RS.tk tkB tkS tkB
 simp only [hs, Bool.not_false, Bool.true_and]
 cases pfx p s <;> rfl
def iValB (k : Nat) (s : List UInt8) (m : Int) : J × RS :=
 bif pfx wNull s then (J.zero, ⟨s.drop 4, false, m⟩)
  else bif pfx wTrue s then (.mk 1 1 [] [] [], ⟨s.drop 4, false, m⟩)
  else bif pfx wFalse s then (.mk 1 0 [] [] [], ⟨s.drop 5, false, m⟩)
  else bif pfx [34] s then (.mk 3 0 (txtE false (s.drop 1)).1 [] [], ⟨(txtE false (s.drop 1)).2.2, (txtE false (s.drop 1)).2.1, m⟩)
  else bif pfx [91] s then (.mk 4 0 [] [] (partsE [93] (listStep (iVal k)) ⟨s.drop 1, false, m⟩ []).2, (partsE [93] (listStep (iVal k)) ⟨s.drop 1, false, m⟩ []).1)
  else bif pfx [123] s then (objJ (partsE [125] (objStep (iVal k)) ⟨s.drop 1, false, m⟩ ⟨[], []⟩).2, (partsE [125] (objStep (iVal k)) ⟨s.drop 1, false, m⟩ ⟨[], []⟩).1)
  else (nmJ s, ⟨s.dropWhile nmC, nmB false s, m⟩)
theorem iVal_bad (k : Nat) (r : RS) (h : r.bad = true ∨ r.room - 1 < 0 ∨ (skp r.s).isEmpty = true) : iVal k r = (J.zero, ⟨skp r.s, true, r.room - 1⟩) := by
 cases k with
 | zero => rfl
 | succ k =>
  rw [iVal]
  have e : (r.bad || decide (r.room - 1 < 0) || (skp r.s).isEmpty) = true := by
   rcases h with h | h | h <;> simp [h]
  simp only [e, cond_true]
theorem iVal_go (k : Nat) (r : RS) (h1 : r.bad = false) (h2 : ¬ r.room - 1 < 0) (h3 : (skp r.s).isEmpty = false) : iVal (k + 1) r = iValB k (skp r.s) (r.room - 1) := by
 rw [iVal]
 have e : (r.bad || decide (r.room - 1 < 0) || (skp r.s).isEmpty) = false := by
  rw [h1, h3, decide_eq_false h2]; rfl
 simp only [e, cond_false]
 rfl
theorem iVal_out : ∀ (k : Nat) (r : RS), ROut r (iVal k r).2
 | 0, r => ⟨List.dropWhile_suffix _, by have := (List.dropWhile_suffix (l := r.s) blkC).length_le; show r.room - 1 ≤ (r.room - 1) + 2 * ((r.s.length : Int) - (r.s.dropWhile blkC).length); omega, by show r.room - 1 ≤ r.room; omega⟩
 | k + 1, r => by
  have hs : skp r.s <:+ r.s := List.dropWhile_suffix _
  have simple : ∀ (s' : List UInt8) (b : Bool), s' <:+ r.s → ROut r ⟨s', b, r.room - 1⟩ := fun s' b h => ⟨h, by have := h.length_le; show r.room - 1 ≤ (r.room - 1) + 2 * ((r.s.length : Int) - s'.length); omega, by show r.room - 1 ≤ r.room; omega⟩
  by_cases hb : r.bad = true ∨ r.room - 1 < 0 ∨ (skp r.s).isEmpty = true
  ·rw [iVal_bad _ _ hb]
   exact simple _ _ hs
  ·simp only [not_or, Bool.not_eq_true] at hb
   rw [iVal_go k r hb.1 hb.2.1 hb.2.2]
   have hne : 0 < (skp r.s).length := by
    cases h : skp r.s with
    | nil => rw [h] at hb; simp at hb
    | cons c s => simp
   have hd : ∀ n, (skp r.s).drop n <:+ r.s := fun n => (List.drop_suffix n _).trans hs
   have nest : ∀ y : RS, ROut ⟨(skp r.s).drop 1, false, r.room - 1⟩ y → ROut r y := fun y h => by
    have l1 := hs.length_le
    have l2 := h.suf.length_le
    have a := h.lo
    have b := h.hi
    simp only [List.length_drop] at l2 a b
    exact ⟨h.suf.trans (hd 1), by omega, by omega⟩
   unfold iValB
   cases pfx wNull (skp r.s) with
   | true => exact simple _ _ (hd 4)
   | false =>
   cases pfx wTrue (skp r.s) with
   | true => exact simple _ _ (hd 4)
   | false =>
   cases pfx wFalse (skp r.s) with
   | true => exact simple _ _ (hd 5)
   | false =>
   cases pfx [34] (skp r.s) with
   | true => exact simple _ _ ((txtE_suf _ _).trans (hd 1))
   | false =>
   cases pfx [91] (skp r.s) with
   | true => exact nest _ (partsE_out (fun r a => iVal_out k r) _ _)
   | false =>
   cases pfx [123] (skp r.s) with
   | true => exact nest _ (partsE_out (fun r a => objStep_out (iVal_out k) r a) _ _)
   | false => exact simple _ _ ((List.dropWhile_suffix _).trans hs)
theorem value_run {t : List UInt8} {d : Int} {k : Nat} (ht : t.length ≤ 400000) (hd : 0 ≤ d ∧ d + ((k + 1 : Nat) : Int) = 12) (hV : ValOK t (d + 1) (iVal k)) (r : RS) (hr : RIn t r) :
  FnOK Tryz.prog fVal [.ptr 0 0, .int .i64 d] [rsB t r] ⟨.agg (vwJ (iVal (k + 1) r).1), [rsB t (iVal (k + 1) r).2], [0]⟩ := by
 refine fnOK_TL (E := EVal (iVal k)) follows named (valueT (iVal k) t d (pos' t r.s : Nat) r.bad r.room) (by simp) ?_
 have hl := hr.suf.length_le
 have hw : IntKind.i64.wrap (r.room - 1) = r.room - 1 := wrap_id (by have := hr.lo; have := hr.hi; omega)
 simp only [WP_cond, T.WP, All, decide_eq_true_eq, decide_eq_false_iff_not, and_true, beq_iff_eq, beq_eq_false_iff_ne, ne_eq, hw, Int.toNat_natCast, drop_pos hr.suf]
 have hs : skp r.s <:+ t := skp_suf hr.suf
 refine ⟨fun h1 => ?_, fun h1 => ⟨fun h2 => by omega, fun h2 => ?_⟩⟩
 ·rintro y rfl
  rw [iVal_bad _ _ (.inr (.inl h1))]
  exact ⟨skip_ok (by omega) hr.suf true _, ⟨rfl, rfl, by simp⟩⟩
 ·rintro y rfl
  refine ⟨skip_ok (by omega) hr.suf r.bad _, fun h3 => ?_, fun h3 => ⟨fun h4 => ?_, fun h4 => ?_⟩⟩
  ·rw [iVal_bad _ _ (.inl h3)]
   exact ⟨rfl, rfl, by simp⟩
  ·have he : (skp r.s).isEmpty = true := by
    have l := hs.length_le
    unfold pos' at h4
    have : (skp r.s).length = 0 := by omega
    rw [List.isEmpty_iff, List.eq_nil_of_length_eq_zero this]
   rw [iVal_bad _ _ (.inr (.inr he))]
   exact ⟨rfl, rfl, by simp⟩
  ·have he : (skp r.s).isEmpty = false := by
    cases h : skp r.s with
    | nil => rw [h] at h4; unfold pos' at h4; simp at h4
    | cons c s => rfl
   rw [iVal_go k r h3 h1 he]
   have hss := skp_skp r.s
   have hlen := (List.dropWhile_suffix (l := r.s) blkC).length_le
   have hlo := hr.lo
   have hhi := hr.hi
   have hne : 0 < (skp r.s).length := by
    cases h : skp r.s with
    | nil => rw [h] at he; simp at he
    | cons c s => simp
   change (skp r.s).length ≤ r.s.length at hlen
   rw [h3]
   generalize skp r.s = s at *
   generalize hm : r.room - 1 = m at *
   have tk : ∀ p, FnOK Tryz.prog fTake [.ptr 0 0, .str p] [rdI t (pos' t s : Nat) false m] ⟨.bool (pfx p s), [rdI t (pos' t (bif pfx p s then s.drop p.length else s) : Nat) false m], [0]⟩ := fun p => by
    have h := tk_ok p (by omega) ⟨s, false, m⟩ hs
    rw [tk_at hss] at h
    exact h
   have hd : ∀ n, s.drop n <:+ t := fun n => (List.drop_suffix n _).trans hs
   have hIn : RIn t ⟨s.drop 1, false, m⟩ := by
    have : (s.drop 1).length ≤ s.length - 1 := by simp
    exact ⟨hd 1, by show 0 ≤ m + 2 * ((t.length : Int) - (s.drop 1).length); omega, by show m ≤ 400; omega⟩
   simp only [iValB, wNull, wTrue, wFalse]
   rw [drop_pos hs, tk_at hss]
   rintro y rfl
   refine ⟨tk _, fun h => ?_, fun h => ?_⟩
   ·dsimp only at h
    simp only [h, cond_true]
    exact ⟨rfl, rfl, by simp⟩
   dsimp only at h
   simp only [h, cond_false]
   rw [drop_pos hs, tk_at hss]
   rintro y rfl
   refine ⟨tk _, fun h => ?_, fun h => ?_⟩
   ·dsimp only at h
    simp only [h, cond_true]
    exact ⟨rfl, rfl, by simp⟩
   dsimp only at h
   simp only [h, cond_false]
   rw [drop_pos hs, tk_at hss]
   rintro y rfl
   refine ⟨tk _, fun h => ?_, fun h => ?_⟩
   ·dsimp only at h
    simp only [h, cond_true]
    exact ⟨rfl, rfl, by simp⟩
   dsimp only at h
   simp only [h, cond_false]
   rw [drop_pos hs, tk_at hss]
   rintro y rfl
   refine ⟨tk _, fun h => ?_, fun h => ?_⟩
   ·dsimp only at h
    simp only [h, cond_true, List.length_singleton]
    rw [drop_pos (hd 1)]
    rintro y rfl
    exact ⟨text_ok idxB_ok (by omega) (hd 1) false m, ⟨rfl, rfl, by simp⟩⟩
   dsimp only at h
   simp only [h, cond_false]
   rw [drop_pos hs, tk_at hss]
   rintro y rfl
   refine ⟨tk _, fun h => ?_, fun h => ?_⟩
   ·dsimp only at h
    simp only [h, cond_true, List.length_singleton]
    rw [drop_pos (hd 1)]
    rintro y rfl
    exact ⟨partsList_nil (by omega) (by omega) hV _ hIn, ⟨rfl, rfl, by simp⟩⟩
   dsimp only at h
   simp only [h, cond_false]
   rw [drop_pos hs, tk_at hss]
   rintro y rfl
   refine ⟨tk _, fun h => ?_, fun h => ?_⟩
   ·dsimp only at h
    simp only [h, cond_true, List.length_singleton]
    rw [drop_pos (hd 1)]
    rintro y rfl
    exact ⟨object_ok (by omega) (by omega) hV _ hIn, ⟨rfl, rfl, by simp⟩⟩
   dsimp only at h
   simp only [h, cond_false]
   rw [drop_pos hs]
   rintro y rfl
   exact ⟨number_ok atoi_ok (by omega) hs false m, ⟨rfl, rfl, by simp⟩⟩
theorem value_ok {t : List UInt8} (ht : t.length ≤ 400000) : ∀ (k : Nat) (d : Int), 0 ≤ d → d + (k : Nat) = 12 → ValOK t d (iVal k)
 | 0, d, hd, hk => by
  refine ⟨fun r hr => ?_, iVal_out 0⟩
  refine fnOK_TL (E := EVal (iVal 0)) follows named (valueT (iVal 0) t d (pos' t r.s : Nat) r.bad r.room) (by simp) ?_
  have hl := hr.suf.length_le
  have hw : IntKind.i64.wrap (r.room - 1) = r.room - 1 := wrap_id (by have := hr.lo; have := hr.hi; omega)
  simp only [WP_cond, T.WP, All, decide_eq_true_eq, decide_eq_false_iff_not, and_true, beq_iff_eq, beq_eq_false_iff_ne, ne_eq, hw, Int.toNat_natCast, drop_pos hr.suf]
  refine ⟨fun h1 => ?_, fun h1 => ⟨fun h2 => ?_, fun h2 => by omega⟩⟩
  ·rintro y rfl
   exact ⟨skip_ok (by omega) hr.suf true _, ⟨rfl, rfl, by simp⟩⟩
  ·rintro y rfl
   exact ⟨skip_ok (by omega) hr.suf true _, ⟨rfl, rfl, by simp⟩⟩
 | k + 1, d, hd, hk => ⟨fun r hr => value_run ht ⟨hd, hk⟩ (value_ok ht k (d + 1) (by omega) (by omega)) r hr, iVal_out (k + 1)⟩
end Go.Proofs.YtfncaghjfgnnhaaGreatDoor

namespace Go.Proofs.YtfncaghjfgnnhaaGreatDoor
open Go.RowKit
set_option maxRecDepth 100000
noncomputable def resSW (val : SS → J × SS) : ResT := fun f vs hp => match vs, hp with
 | [.ptr 0 0], [some ([.str t, .int _ i, .int _ n, .bool ok], _)] =>
  bif Nat.beq f fSBlk then some ⟨skp (t.drop i.toNat), fun y => ⟨.tup [], [ssB t ⟨y, n, ok⟩], [0]⟩⟩
  else bif Nat.beq f fSText then some ⟨stxE ok (t.drop i.toNat), fun y => ⟨.str y.1, [ssB t ⟨y.2.2, n, y.2.1⟩], [0]⟩⟩
  else bif Nat.beq f fSNum then some ⟨(t.drop i.toNat, ok), fun y => ⟨.int .i64 (snV y.1).1, [ssB t ⟨snR y.1, n, y.2 && (snV y.1).2⟩], [0]⟩⟩ else none
 | [.ptr 0 0, .str p], [some ([.str t, .int _ i, .int _ n, .bool ok], _)] =>
  bif Nat.beq f fSWord then some ⟨(pfx p (t.drop i.toNat), wdS p (t.drop i.toNat)), fun y => ⟨.bool y.1, [ssB t ⟨y.2, n, ok⟩], [0]⟩⟩ else none
 | [.ptr 0 0, .int _ b], [some ([.str t, .int _ i, .int _ n, .bool ok], _)] =>
  bif Nat.beq f fSTake then some ⟨(SS.mk (t.drop i.toNat) n ok).tk (UInt8.ofNat b.toNat), fun y => ⟨.bool y.1, [ssB t y.2], [0]⟩⟩
  else bif Nat.beq f fSLst then some ⟨sLst val ((t.drop i.toNat).length + 3) ⟨t.drop i.toNat, n, ok⟩ [], fun y => ⟨.agg (vwJ (.mk 4 0 [] [] y.2)), [ssB t y.1], [0]⟩⟩
  else bif Nat.beq f fSObj then some ⟨sObj val ((t.drop i.toNat).length + 3) ⟨t.drop i.toNat, n, ok⟩ ⟨[], []⟩, fun y => ⟨.agg (vwJ (.mk 5 0 [] y.2.ks y.2.its)), [ssB t y.1], [0]⟩⟩ else none
 | _, _ => none
noncomputable def ESW (val : SS → J × SS) : Env := { P := Tryz.prog, vw := vwA, res := resSW val }
--FOLD sdI ssB
set_option maxRecDepth 100000 in
theorem svalT (val : SS → J × SS) (t : List UInt8) (d i n : Int) (ok : Bool) : fnT (ESW val) 0 fSVal [.ptr 0 0, .int .i64 d] [sdI t i n ok] = (
 .bind (skp (List.drop (Int.toNat i) t)) fun y0 => .need [FnOK Tryz.prog 46 [.ptr 0 0] [sdI t i n ok] (Ret.mk (.tup []) [sdI t (↑(pos' t (SS.s (SS.mk y0 n ok))) : Int) (SS.n (SS.mk y0 n ok)) (SS.ok (SS.mk y0 n ok))] [0])] (bif d == 0 then
 .done (Ret.mk (.agg [.int .i64 0, .int .i64 0, .str [], .dsl 0 false [], .dsl 0 false []]) [sdI t (↑(pos' t (SS.s (SS.mk y0 n ok))) : Int) (IntKind.wrap IntKind.i64 (SS.n (SS.mk y0 n ok) + 1)) false] [0]) else bif decide (IntKind.wrap
 IntKind.i64 (SS.n (SS.mk y0 n ok) + 1) > 400) then .done (Ret.mk (.agg [.int .i64 0, .int .i64 0, .str [], .dsl 0 false [], .dsl 0 false []]) [sdI t (↑(pos' t (SS.s (SS.mk y0 n ok))) : Int) (IntKind.wrap IntKind.i64 (SS.n (SS.mk y0 n ok) +
 1)) false] [0]) else bif !SS.ok (SS.mk y0 n ok) then .done (Ret.mk (.agg [.int .i64 0, .int .i64 0, .str [], .dsl 0 false [], .dsl 0 false []]) [sdI t (↑(pos' t (SS.s (SS.mk y0 n ok))) : Int) (IntKind.wrap IntKind.i64 (SS.n (SS.mk y0 n ok)
 + 1)) false] [0]) else bif decide ((↑(pos' t (SS.s (SS.mk y0 n ok))) : Int) ≥ (↑t.length : Int)) then .done (Ret.mk (.agg [.int .i64 0, .int .i64 0, .str [], .dsl 0 false [], .dsl 0 false []]) [sdI t (↑(pos' t (SS.s (SS.mk y0 n ok))) : Int)
 (IntKind.wrap IntKind.i64 (SS.n (SS.mk y0 n ok) + 1)) false] [0]) else .bind (pfx [(110 : UInt8), 117, 108, 108] (List.drop (Int.toNat (↑(pos' t (SS.s (SS.mk y0 n ok))) : Int)) t), wdS [(110 : UInt8), 117, 108, 108] (List.drop (Int.toNat
 (↑(pos' t (SS.s (SS.mk y0 n ok))) : Int)) t)) fun y1 => .need [FnOK Tryz.prog 67 [.ptr 0 0, .str [110, 117, 108, 108]] [sdI t (↑(pos' t (SS.s (SS.mk y0 n ok))) : Int) (IntKind.wrap IntKind.i64 (SS.n (SS.mk y0 n ok) + 1)) (SS.ok (SS.mk y0 n
 ok))] (Ret.mk (.bool y1.1) [sdI t (↑(pos' t (SS.s (SS.mk y1.2 (IntKind.wrap IntKind.i64 (SS.n (SS.mk y0 n ok) + 1)) (SS.ok (SS.mk y0 n ok))))) : Int) (SS.n (SS.mk y1.2 (IntKind.wrap IntKind.i64 (SS.n (SS.mk y0 n ok) + 1)) (SS.ok (SS.mk y0 n
 ok)))) (SS.ok (SS.mk y1.2 (IntKind.wrap IntKind.i64 (SS.n (SS.mk y0 n ok) + 1)) (SS.ok (SS.mk y0 n ok))))] [0])] (bif y1.1 then .done (Ret.mk (.agg [.int .i64 0, .int .i64 0, .str [], .dsl 0 false [], .dsl 0 false []]) [sdI t (↑(pos' t
 (SS.s (SS.mk y1.2 (IntKind.wrap IntKind.i64 (SS.n (SS.mk y0 n ok) + 1)) (SS.ok (SS.mk y0 n ok))))) : Int) (SS.n (SS.mk y1.2 (IntKind.wrap IntKind.i64 (SS.n (SS.mk y0 n ok) + 1)) (SS.ok (SS.mk y0 n ok)))) (SS.ok (SS.mk y1.2 (IntKind.wrap
 IntKind.i64 (SS.n (SS.mk y0 n ok) + 1)) (SS.ok (SS.mk y0 n ok))))] [0]) else .bind (pfx [(116 : UInt8), 114, 117, 101] (List.drop (Int.toNat (↑(pos' t (SS.s (SS.mk y1.2 (IntKind.wrap IntKind.i64 (SS.n (SS.mk y0 n ok) + 1)) (SS.ok (SS.mk y0
 n ok))))) : Int)) t), wdS [(116 : UInt8), 114, 117, 101] (List.drop (Int.toNat (↑(pos' t (SS.s (SS.mk y1.2 (IntKind.wrap IntKind.i64 (SS.n (SS.mk y0 n ok) + 1)) (SS.ok (SS.mk y0 n ok))))) : Int)) t)) fun y2 => .need [FnOK Tryz.prog 67 [.ptr
 0 0, .str [116, 114, 117, 101]] [sdI t (↑(pos' t (SS.s (SS.mk y1.2 (IntKind.wrap IntKind.i64 (SS.n (SS.mk y0 n ok) + 1)) (SS.ok (SS.mk y0 n ok))))) : Int) (SS.n (SS.mk y1.2 (IntKind.wrap IntKind.i64 (SS.n (SS.mk y0 n ok) + 1)) (SS.ok (SS.mk
 y0 n ok)))) (SS.ok (SS.mk y1.2 (IntKind.wrap IntKind.i64 (SS.n (SS.mk y0 n ok) + 1)) (SS.ok (SS.mk y0 n ok))))] (Ret.mk (.bool y2.1) [sdI t (↑(pos' t (SS.s (SS.mk y2.2 (SS.n (SS.mk y1.2 (IntKind.wrap IntKind.i64 (SS.n (SS.mk y0 n ok) + 1))
 (SS.ok (SS.mk y0 n ok)))) (SS.ok (SS.mk y1.2 (IntKind.wrap IntKind.i64 (SS.n (SS.mk y0 n ok) + 1)) (SS.ok (SS.mk y0 n ok))))))) : Int) (SS.n (SS.mk y2.2 (SS.n (SS.mk y1.2 (IntKind.wrap IntKind.i64 (SS.n (SS.mk y0 n ok) + 1)) (SS.ok (SS.mk
 y0 n ok)))) (SS.ok (SS.mk y1.2 (IntKind.wrap IntKind.i64 (SS.n (SS.mk y0 n ok) + 1)) (SS.ok (SS.mk y0 n ok)))))) (SS.ok (SS.mk y2.2 (SS.n (SS.mk y1.2 (IntKind.wrap IntKind.i64 (SS.n (SS.mk y0 n ok) + 1)) (SS.ok (SS.mk y0 n ok)))) (SS.ok
 (SS.mk y1.2 (IntKind.wrap IntKind.i64 (SS.n (SS.mk y0 n ok) + 1)) (SS.ok (SS.mk y0 n ok))))))] [0])] (bif y2.1 then .done (Ret.mk (.agg [.int .i64 1, .int .i64 1, .str [], .dsl 0 false [], .dsl 0 false []]) [sdI t (↑(pos' t (SS.s (SS.mk
 y2.2 (SS.n (SS.mk y1.2 (IntKind.wrap IntKind.i64 (SS.n (SS.mk y0 n ok) + 1)) (SS.ok (SS.mk y0 n ok)))) (SS.ok (SS.mk y1.2 (IntKind.wrap IntKind.i64 (SS.n (SS.mk y0 n ok) + 1)) (SS.ok (SS.mk y0 n ok))))))) : Int) (SS.n (SS.mk y2.2 (SS.n
 (SS.mk y1.2 (IntKind.wrap IntKind.i64 (SS.n (SS.mk y0 n ok) + 1)) (SS.ok (SS.mk y0 n ok)))) (SS.ok (SS.mk y1.2 (IntKind.wrap IntKind.i64 (SS.n (SS.mk y0 n ok) + 1)) (SS.ok (SS.mk y0 n ok)))))) (SS.ok (SS.mk y2.2 (SS.n (SS.mk y1.2
 (IntKind.wrap IntKind.i64 (SS.n (SS.mk y0 n ok) + 1)) (SS.ok (SS.mk y0 n ok)))) (SS.ok (SS.mk y1.2 (IntKind.wrap IntKind.i64 (SS.n (SS.mk y0 n ok) + 1)) (SS.ok (SS.mk y0 n ok))))))] [0]) else .bind (pfx [(102 : UInt8), 97, 108, 115, 101]
 (List.drop (Int.toNat (↑(pos' t (SS.s (SS.mk y2.2 (SS.n (SS.mk y1.2 (IntKind.wrap IntKind.i64 (SS.n (SS.mk y0 n ok) + 1)) (SS.ok (SS.mk y0 n ok)))) (SS.ok (SS.mk y1.2 (IntKind.wrap IntKind.i64 (SS.n (SS.mk y0 n ok) + 1)) (SS.ok (SS.mk y0 n
 ok))))))) : Int)) t), wdS [(102 : UInt8), 97, 108, 115, 101] (List.drop (Int.toNat (↑(pos' t (SS.s (SS.mk y2.2 (SS.n (SS.mk y1.2 (IntKind.wrap IntKind.i64 (SS.n (SS.mk y0 n ok) + 1)) (SS.ok (SS.mk y0 n ok)))) (SS.ok (SS.mk y1.2
 (IntKind.wrap IntKind.i64 (SS.n (SS.mk y0 n ok) + 1)) (SS.ok (SS.mk y0 n ok))))))) : Int)) t)) fun y3 => .need [FnOK Tryz.prog 67 [.ptr 0 0, .str [102, 97, 108, 115, 101]] [sdI t (↑(pos' t (SS.s (SS.mk y2.2 (SS.n (SS.mk y1.2 (IntKind.wrap
 IntKind.i64 (SS.n (SS.mk y0 n ok) + 1)) (SS.ok (SS.mk y0 n ok)))) (SS.ok (SS.mk y1.2 (IntKind.wrap IntKind.i64 (SS.n (SS.mk y0 n ok) + 1)) (SS.ok (SS.mk y0 n ok))))))) : Int) (SS.n (SS.mk y2.2 (SS.n (SS.mk y1.2 (IntKind.wrap IntKind.i64
 (SS.n (SS.mk y0 n ok) + 1)) (SS.ok (SS.mk y0 n ok)))) (SS.ok (SS.mk y1.2 (IntKind.wrap IntKind.i64 (SS.n (SS.mk y0 n ok) + 1)) (SS.ok (SS.mk y0 n ok)))))) (SS.ok (SS.mk y2.2 (SS.n (SS.mk y1.2 (IntKind.wrap IntKind.i64 (SS.n (SS.mk y0 n ok)
 + 1)) (SS.ok (SS.mk y0 n ok)))) (SS.ok (SS.mk y1.2 (IntKind.wrap IntKind.i64 (SS.n (SS.mk y0 n ok) + 1)) (SS.ok (SS.mk y0 n ok))))))] (Ret.mk (.bool y3.1) [sdI t (↑(pos' t (SS.s (SS.mk y3.2 (SS.n (SS.mk y2.2 (SS.n (SS.mk y1.2 (IntKind.wrap
 IntKind.i64 (SS.n (SS.mk y0 n ok) + 1)) (SS.ok (SS.mk y0 n ok)))) (SS.ok (SS.mk y1.2 (IntKind.wrap IntKind.i64 (SS.n (SS.mk y0 n ok) + 1)) (SS.ok (SS.mk y0 n ok)))))) (SS.ok (SS.mk y2.2 (SS.n (SS.mk y1.2 (IntKind.wrap IntKind.i64 (SS.n
 (SS.mk y0 n ok) + 1)) (SS.ok (SS.mk y0 n ok)))) (SS.ok (SS.mk y1.2 (IntKind.wrap IntKind.i64 (SS.n (SS.mk y0 n ok) + 1)) (SS.ok (SS.mk y0 n ok))))))))) : Int) (SS.n (SS.mk y3.2 (SS.n (SS.mk y2.2 (SS.n (SS.mk y1.2 (IntKind.wrap IntKind.i64
 (SS.n (SS.mk y0 n ok) + 1)) (SS.ok (SS.mk y0 n ok)))) (SS.ok (SS.mk y1.2 (IntKind.wrap IntKind.i64 (SS.n (SS.mk y0 n ok) + 1)) (SS.ok (SS.mk y0 n ok)))))) (SS.ok (SS.mk y2.2 (SS.n (SS.mk y1.2 (IntKind.wrap IntKind.i64 (SS.n (SS.mk y0 n ok)
 + 1)) (SS.ok (SS.mk y0 n ok)))) (SS.ok (SS.mk y1.2 (IntKind.wrap IntKind.i64 (SS.n (SS.mk y0 n ok) + 1)) (SS.ok (SS.mk y0 n ok)))))))) (SS.ok (SS.mk y3.2 (SS.n (SS.mk y2.2 (SS.n (SS.mk y1.2 (IntKind.wrap IntKind.i64 (SS.n (SS.mk y0 n ok) +
 1)) (SS.ok (SS.mk y0 n ok)))) (SS.ok (SS.mk y1.2 (IntKind.wrap IntKind.i64 (SS.n (SS.mk y0 n ok) + 1)) (SS.ok (SS.mk y0 n ok)))))) (SS.ok (SS.mk y2.2 (SS.n (SS.mk y1.2 (IntKind.wrap IntKind.i64 (SS.n (SS.mk y0 n ok) + 1)) (SS.ok (SS.mk y0 n
 ok)))) (SS.ok (SS.mk y1.2 (IntKind.wrap IntKind.i64 (SS.n (SS.mk y0 n ok) + 1)) (SS.ok (SS.mk y0 n ok))))))))] [0])] (bif y3.1 then .done (Ret.mk (.agg [.int .i64 1, .int .i64 0, .str [], .dsl 0 false [], .dsl 0 false []]) [sdI t (↑(pos' t
 (SS.s (SS.mk y3.2 (SS.n (SS.mk y2.2 (SS.n (SS.mk y1.2 (IntKind.wrap IntKind.i64 (SS.n (SS.mk y0 n ok) + 1)) (SS.ok (SS.mk y0 n ok)))) (SS.ok (SS.mk y1.2 (IntKind.wrap IntKind.i64 (SS.n (SS.mk y0 n ok) + 1)) (SS.ok (SS.mk y0 n ok))))))
 (SS.ok (SS.mk y2.2 (SS.n (SS.mk y1.2 (IntKind.wrap IntKind.i64 (SS.n (SS.mk y0 n ok) + 1)) (SS.ok (SS.mk y0 n ok)))) (SS.ok (SS.mk y1.2 (IntKind.wrap IntKind.i64 (SS.n (SS.mk y0 n ok) + 1)) (SS.ok (SS.mk y0 n ok))))))))) : Int) (SS.n (SS.mk
 y3.2 (SS.n (SS.mk y2.2 (SS.n (SS.mk y1.2 (IntKind.wrap IntKind.i64 (SS.n (SS.mk y0 n ok) + 1)) (SS.ok (SS.mk y0 n ok)))) (SS.ok (SS.mk y1.2 (IntKind.wrap IntKind.i64 (SS.n (SS.mk y0 n ok) + 1)) (SS.ok (SS.mk y0 n ok)))))) (SS.ok (SS.mk y2.2
 (SS.n (SS.mk y1.2 (IntKind.wrap IntKind.i64 (SS.n (SS.mk y0 n ok) + 1)) (SS.ok (SS.mk y0 n ok)))) (SS.ok (SS.mk y1.2 (IntKind.wrap IntKind.i64 (SS.n (SS.mk y0 n ok) + 1)) (SS.ok (SS.mk y0 n ok)))))))) (SS.ok (SS.mk y3.2 (SS.n (SS.mk y2.2
 (SS.n (SS.mk y1.2 (IntKind.wrap IntKind.i64 (SS.n (SS.mk y0 n ok) + 1)) (SS.ok (SS.mk y0 n ok)))) (SS.ok (SS.mk y1.2 (IntKind.wrap IntKind.i64 (SS.n (SS.mk y0 n ok) + 1)) (SS.ok (SS.mk y0 n ok)))))) (SS.ok (SS.mk y2.2 (SS.n (SS.mk y1.2
 (IntKind.wrap IntKind.i64 (SS.n (SS.mk y0 n ok) + 1)) (SS.ok (SS.mk y0 n ok)))) (SS.ok (SS.mk y1.2 (IntKind.wrap IntKind.i64 (SS.n (SS.mk y0 n ok) + 1)) (SS.ok (SS.mk y0 n ok))))))))] [0]) else .bind (SS.tk (34 : UInt8) (SS.mk (List.drop
 (Int.toNat (↑(pos' t (SS.s (SS.mk y3.2 (SS.n (SS.mk y2.2 (SS.n (SS.mk y1.2 (IntKind.wrap IntKind.i64 (SS.n (SS.mk y0 n ok) + 1)) (SS.ok (SS.mk y0 n ok)))) (SS.ok (SS.mk y1.2 (IntKind.wrap IntKind.i64 (SS.n (SS.mk y0 n ok) + 1)) (SS.ok
 (SS.mk y0 n ok)))))) (SS.ok (SS.mk y2.2 (SS.n (SS.mk y1.2 (IntKind.wrap IntKind.i64 (SS.n (SS.mk y0 n ok) + 1)) (SS.ok (SS.mk y0 n ok)))) (SS.ok (SS.mk y1.2 (IntKind.wrap IntKind.i64 (SS.n (SS.mk y0 n ok) + 1)) (SS.ok (SS.mk y0 n
 ok))))))))) : Int)) t) (SS.n (SS.mk y3.2 (SS.n (SS.mk y2.2 (SS.n (SS.mk y1.2 (IntKind.wrap IntKind.i64 (SS.n (SS.mk y0 n ok) + 1)) (SS.ok (SS.mk y0 n ok)))) (SS.ok (SS.mk y1.2 (IntKind.wrap IntKind.i64 (SS.n (SS.mk y0 n ok) + 1)) (SS.ok
 (SS.mk y0 n ok)))))) (SS.ok (SS.mk y2.2 (SS.n (SS.mk y1.2 (IntKind.wrap IntKind.i64 (SS.n (SS.mk y0 n ok) + 1)) (SS.ok (SS.mk y0 n ok)))) (SS.ok (SS.mk y1.2 (IntKind.wrap IntKind.i64 (SS.n (SS.mk y0 n ok) + 1)) (SS.ok (SS.mk y0 n ok))))))))
 (SS.ok (SS.mk y3.2 (SS.n (SS.mk y2.2 (SS.n (SS.mk y1.2 (IntKind.wrap IntKind.i64 (SS.n (SS.mk y0 n ok) + 1)) (SS.ok (SS.mk y0 n ok)))) (SS.ok (SS.mk y1.2 (IntKind.wrap IntKind.i64 (SS.n (SS.mk y0 n ok) + 1)) (SS.ok (SS.mk y0 n ok))))))
 (SS.ok (SS.mk y2.2 (SS.n (SS.mk y1.2 (IntKind.wrap IntKind.i64 (SS.n (SS.mk y0 n ok) + 1)) (SS.ok (SS.mk y0 n ok)))) (SS.ok (SS.mk y1.2 (IntKind.wrap IntKind.i64 (SS.n (SS.mk y0 n ok) + 1)) (SS.ok (SS.mk y0 n ok)))))))))) fun y4 => .need
 [FnOK Tryz.prog 68 [.ptr 0 0, .int .u8 34] [sdI t (↑(pos' t (SS.s (SS.mk y3.2 (SS.n (SS.mk y2.2 (SS.n (SS.mk y1.2 (IntKind.wrap IntKind.i64 (SS.n (SS.mk y0 n ok) + 1)) (SS.ok (SS.mk y0 n ok)))) (SS.ok (SS.mk y1.2 (IntKind.wrap IntKind.i64
 (SS.n (SS.mk y0 n ok) + 1)) (SS.ok (SS.mk y0 n ok)))))) (SS.ok (SS.mk y2.2 (SS.n (SS.mk y1.2 (IntKind.wrap IntKind.i64 (SS.n (SS.mk y0 n ok) + 1)) (SS.ok (SS.mk y0 n ok)))) (SS.ok (SS.mk y1.2 (IntKind.wrap IntKind.i64 (SS.n (SS.mk y0 n ok)
 + 1)) (SS.ok (SS.mk y0 n ok))))))))) : Int) (SS.n (SS.mk y3.2 (SS.n (SS.mk y2.2 (SS.n (SS.mk y1.2 (IntKind.wrap IntKind.i64 (SS.n (SS.mk y0 n ok) + 1)) (SS.ok (SS.mk y0 n ok)))) (SS.ok (SS.mk y1.2 (IntKind.wrap IntKind.i64 (SS.n (SS.mk y0 n
 ok) + 1)) (SS.ok (SS.mk y0 n ok)))))) (SS.ok (SS.mk y2.2 (SS.n (SS.mk y1.2 (IntKind.wrap IntKind.i64 (SS.n (SS.mk y0 n ok) + 1)) (SS.ok (SS.mk y0 n ok)))) (SS.ok (SS.mk y1.2 (IntKind.wrap IntKind.i64 (SS.n (SS.mk y0 n ok) + 1)) (SS.ok
 (SS.mk y0 n ok)))))))) (SS.ok (SS.mk y3.2 (SS.n (SS.mk y2.2 (SS.n (SS.mk y1.2 (IntKind.wrap IntKind.i64 (SS.n (SS.mk y0 n ok) + 1)) (SS.ok (SS.mk y0 n ok)))) (SS.ok (SS.mk y1.2 (IntKind.wrap IntKind.i64 (SS.n (SS.mk y0 n ok) + 1)) (SS.ok
 (SS.mk y0 n ok)))))) (SS.ok (SS.mk y2.2 (SS.n (SS.mk y1.2 (IntKind.wrap IntKind.i64 (SS.n (SS.mk y0 n ok) + 1)) (SS.ok (SS.mk y0 n ok)))) (SS.ok (SS.mk y1.2 (IntKind.wrap IntKind.i64 (SS.n (SS.mk y0 n ok) + 1)) (SS.ok (SS.mk y0 n
 ok))))))))] (Ret.mk (.bool y4.1) [sdI t (↑(pos' t (SS.s y4.2)) : Int) (SS.n y4.2) (SS.ok y4.2)] [0])] (bif y4.1 then .bind (stxE (SS.ok y4.2) (List.drop (Int.toNat (↑(pos' t (SS.s y4.2)) : Int)) t)) fun y5 => .need [FnOK Tryz.prog 69 [.ptr
 0 0] [sdI t (↑(pos' t (SS.s y4.2)) : Int) (SS.n y4.2) (SS.ok y4.2)] (Ret.mk (.str y5.1) [sdI t (↑(pos' t (SS.s (SS.mk (y5.2.2) (SS.n y4.2) (y5.2.1)))) : Int) (SS.n (SS.mk (y5.2.2) (SS.n y4.2) (y5.2.1))) (SS.ok (SS.mk (y5.2.2) (SS.n y4.2)
 (y5.2.1)))] [0])] (.done (Ret.mk (.agg [.int .i64 3, .int .i64 0, .str y5.1, .dsl 0 false [], .dsl 0 false []]) [sdI t (↑(pos' t (SS.s (SS.mk (y5.2.2) (SS.n y4.2) (y5.2.1)))) : Int) (SS.n (SS.mk (y5.2.2) (SS.n y4.2) (y5.2.1))) (SS.ok (SS.mk
 (y5.2.2) (SS.n y4.2) (y5.2.1)))] [0])) else .bind (SS.tk (91 : UInt8) (SS.mk (List.drop (Int.toNat (↑(pos' t (SS.s y4.2)) : Int)) t) (SS.n y4.2) (SS.ok y4.2))) fun y6 => .need [FnOK Tryz.prog 68 [.ptr 0 0, .int .u8 91] [sdI t (↑(pos' t
 (SS.s y4.2)) : Int) (SS.n y4.2) (SS.ok y4.2)] (Ret.mk (.bool y6.1) [sdI t (↑(pos' t (SS.s y6.2)) : Int) (SS.n y6.2) (SS.ok y6.2)] [0])] (bif y6.1 then .bind (sLst val (List.length (List.drop (Int.toNat (↑(pos' t (SS.s y6.2)) : Int)) t) + 3)
 (SS.mk (List.drop (Int.toNat (↑(pos' t (SS.s y6.2)) : Int)) t) (SS.n y6.2) (SS.ok y6.2)) []) fun y7 => .need [FnOK Tryz.prog 70 [.ptr 0 0, .int .i64 d] [sdI t (↑(pos' t (SS.s y6.2)) : Int) (SS.n y6.2) (SS.ok y6.2)] (Ret.mk (.agg [.int .i64
 4, .int .i64 0, .str (J.t (J.mk (4 : Int) (0 : Int) [] [] y7.2)), .dsl 0 false [], .dsl (List.length (J.items (J.mk (4 : Int) (0 : Int) [] [] y7.2))) false (encs encJ (J.items (J.mk (4 : Int) (0 : Int) [] [] y7.2)))]) [sdI t (↑(pos' t (SS.s
 y7.1)) : Int) (SS.n y7.1) (SS.ok y7.1)] [0])] (.done (Ret.mk (.agg [.int .i64 4, .int .i64 0, .str (J.t (J.mk (4 : Int) (0 : Int) [] [] y7.2)), .dsl 0 false [], .dsl (List.length (J.items (J.mk (4 : Int) (0 : Int) [] [] y7.2))) false (encs
 encJ (J.items (J.mk (4 : Int) (0 : Int) [] [] y7.2)))]) [sdI t (↑(pos' t (SS.s y7.1)) : Int) (SS.n y7.1) (SS.ok y7.1)] [0])) else .bind (SS.tk (123 : UInt8) (SS.mk (List.drop (Int.toNat (↑(pos' t (SS.s y6.2)) : Int)) t) (SS.n y6.2) (SS.ok
 y6.2))) fun y8 => .need [FnOK Tryz.prog 68 [.ptr 0 0, .int .u8 123] [sdI t (↑(pos' t (SS.s y6.2)) : Int) (SS.n y6.2) (SS.ok y6.2)] (Ret.mk (.bool y8.1) [sdI t (↑(pos' t (SS.s y8.2)) : Int) (SS.n y8.2) (SS.ok y8.2)] [0])] (bif y8.1 then
 .bind (sObj val (List.length (List.drop (Int.toNat (↑(pos' t (SS.s y8.2)) : Int)) t) + 3) (SS.mk (List.drop (Int.toNat (↑(pos' t (SS.s y8.2)) : Int)) t) (SS.n y8.2) (SS.ok y8.2)) (KL.mk [] [])) fun y9 => .need [FnOK Tryz.prog 71 [.ptr 0 0,
 .int .i64 d] [sdI t (↑(pos' t (SS.s y8.2)) : Int) (SS.n y8.2) (SS.ok y8.2)] (Ret.mk (.agg [.int .i64 5, .int .i64 0, .str (J.t (J.mk (5 : Int) (0 : Int) [] (KL.ks y9.2) (KL.its y9.2))), .dsl (List.length (J.keys (J.mk (5 : Int) (0 : Int) []
 (KL.ks y9.2) (KL.its y9.2)))) false (encs encStr (J.keys (J.mk (5 : Int) (0 : Int) [] (KL.ks y9.2) (KL.its y9.2)))), .dsl (List.length (J.items (J.mk (5 : Int) (0 : Int) [] (KL.ks y9.2) (KL.its y9.2)))) false (encs encJ (J.items (J.mk (5 :
 Int) (0 : Int) [] (KL.ks y9.2) (KL.its y9.2))))]) [sdI t (↑(pos' t (SS.s y9.1)) : Int) (SS.n y9.1) (SS.ok y9.1)] [0])] (.done (Ret.mk (.agg [.int .i64 5, .int .i64 0, .str (J.t (J.mk (5 : Int) (0 : Int) [] (KL.ks y9.2) (KL.its y9.2))), .dsl
 (List.length (J.keys (J.mk (5 : Int) (0 : Int) [] (KL.ks y9.2) (KL.its y9.2)))) false (encs encStr (J.keys (J.mk (5 : Int) (0 : Int) [] (KL.ks y9.2) (KL.its y9.2)))), .dsl (List.length (J.items (J.mk (5 : Int) (0 : Int) [] (KL.ks y9.2)
 (KL.its y9.2)))) false (encs encJ (J.items (J.mk (5 : Int) (0 : Int) [] (KL.ks y9.2) (KL.its y9.2))))]) [sdI t (↑(pos' t (SS.s y9.1)) : Int) (SS.n y9.1) (SS.ok y9.1)] [0])) else .bind (List.drop (Int.toNat (↑(pos' t (SS.s y8.2)) : Int)) t,
 SS.ok y8.2) fun y10 => .need [FnOK Tryz.prog 72 [.ptr 0 0] [sdI t (↑(pos' t (SS.s y8.2)) : Int) (SS.n y8.2) (SS.ok y8.2)] (Ret.mk (.int .i64 (Prod.fst (snV y10.1))) [sdI t (↑(pos' t (SS.s (SS.mk (snR y10.1) (SS.n y8.2) (y10.2 && Prod.snd
 (snV y10.1))))) : Int) (SS.n (SS.mk (snR y10.1) (SS.n y8.2) (y10.2 && Prod.snd (snV y10.1)))) (SS.ok (SS.mk (snR y10.1) (SS.n y8.2) (y10.2 && Prod.snd (snV y10.1))))] [0])] (.done (Ret.mk (.agg [.int .i64 2, .int .i64 (Prod.fst (snV
 y10.1)), .str [], .dsl 0 false [], .dsl 0 false []]) [sdI t (↑(pos' t (SS.s (SS.mk (snR y10.1) (SS.n y8.2) (y10.2 && Prod.snd (snV y10.1))))) : Int) (SS.n (SS.mk (snR y10.1) (SS.n y8.2) (y10.2 && Prod.snd (snV y10.1)))) (SS.ok (SS.mk (snR
 y10.1) (SS.n y8.2) (y10.2 && Prod.snd (snV y10.1))))] [0]))))))))) : T _) := (T.force_eq _).symm.trans (by kernel_rfl)
theorem stk_at {s : List UInt8} (hs : skp s = s) (m : Int) (b : UInt8) : (SS.mk s m true).tk b = (hdB b s, ⟨bif hdB b s then s.drop 1 else s, m, true⟩) := by
 unfold SS.tk hdS
 simp only [hs]
def sValB (k : Nat) (s : List UInt8) (m : Int) : J × SS :=
 bif pfx wNull s then (J.zero, ⟨s.drop 4, m, true⟩)
  else bif pfx wTrue s then (.mk 1 1 [] [] [], ⟨s.drop 4, m, true⟩)
  else bif pfx wFalse s then (.mk 1 0 [] [] [], ⟨s.drop 5, m, true⟩)
  else bif hdB 34 s then (.mk 3 0 (stxE true (s.drop 1)).1 [] [], ⟨(stxE true (s.drop 1)).2.2, m, (stxE true (s.drop 1)).2.1⟩)
  else bif hdB 91 s then (.mk 4 0 [] [] (sLst (sVal k) (s.length + 2) ⟨s.drop 1, m, true⟩ []).2, (sLst (sVal k) (s.length + 2) ⟨s.drop 1, m, true⟩ []).1)
  else bif hdB 123 s then (.mk 5 0 [] (sObj (sVal k) (s.length + 2) ⟨s.drop 1, m, true⟩ ⟨[], []⟩).2.ks (sObj (sVal k) (s.length + 2) ⟨s.drop 1, m, true⟩ ⟨[], []⟩).2.its, (sObj (sVal k) (s.length + 2) ⟨s.drop 1, m, true⟩ ⟨[], []⟩).1)
  else (.mk 2 (snV s).1 [] [] [], ⟨snR s, m, (snV s).2⟩)
theorem sVal_bad (k : Nat) (x : SS) (h : k = 0 ∨ x.ok = false ∨ 400 < x.n + 1 ∨ (skp x.s).isEmpty = true) : sVal k x = (J.zero, ⟨skp x.s, x.n + 1, false⟩) := by
 cases k with
 | zero => rfl
 | succ k =>
  rw [sVal]
  have e : (!x.ok || decide (400 < x.n + 1) || (skp x.s).isEmpty) = true := by
   rcases h with h | h | h | h
   ·cases h
   ·simp [h]
   ·simp [h]
   ·simp [h]
  simp only [e, cond_true]
theorem sVal_go (k : Nat) (x : SS) (h1 : x.ok = true) (h2 : ¬ 400 < x.n + 1) (h3 : (skp x.s).isEmpty = false) : sVal (k + 1) x = sValB k (skp x.s) (x.n + 1) := by
 rw [sVal]
 have e : (!x.ok || decide (400 < x.n + 1) || (skp x.s).isEmpty) = false := by
  rw [h1, h3, decide_eq_false h2]; rfl
 simp only [e, cond_false]
 rfl
theorem svalue_run {t : List UInt8} {k : Nat} (ht : t.length ≤ 400000) (hk : k ≤ 12) (hV : 1 ≤ k → SValOK t ((k : Int) - 1) (sVal (k - 1))) (x : SS) (hx : SIn t x) :
  FnOK Tryz.prog fSVal [.ptr 0 0, .int .i64 (k : Nat)] [ssB t x] ⟨.agg (vwJ (sVal k x).1), [ssB t (sVal k x).2], [0]⟩ := by
 obtain ⟨s0, n, ok⟩ := x
 refine fnOK_TL (E := ESW (sVal (k - 1))) follows named (svalT (sVal (k - 1)) t (k : Nat) (pos' t s0 : Nat) n ok) (by simp) ?_
 have hl : s0.length ≤ t.length := hx.suf.length_le
 have hlo : 0 ≤ n := hx.lo
 have hhi : n ≤ 400 := hx.hi
 have hw : IntKind.i64.wrap (n + 1) = n + 1 := wrap_id (by omega)
 simp only [WP_cond, T.WP, All, decide_eq_true_eq, decide_eq_false_iff_not, and_true, beq_iff_eq, beq_eq_false_iff_ne, ne_eq, hw, Int.toNat_natCast, drop_pos (show s0 <:+ t from hx.suf)]
 have hs : skp s0 <:+ t := skp_suf hx.suf
 rintro y rfl
 refine ⟨sblk_ok (by omega) hx.suf n ok, fun h1 => ?_, fun h1 => ⟨fun h2 => ?_, fun h2 => ⟨fun h3 => ?_, fun h3 => ⟨fun h4 => ?_, fun h4 => ?_⟩⟩⟩⟩
 ·rw [sVal_bad _ _ (.inl (by omega))]; exact ⟨rfl, rfl, by simp⟩
 ·rw [sVal_bad _ _ (.inr (.inr (.inl (show 400 < n + 1 by omega))))]; exact ⟨rfl, rfl, by simp⟩
 ·rw [sVal_bad _ _ (.inr (.inl (show ok = false by simpa using h3)))]; exact ⟨rfl, rfl, by simp⟩
 ·have he : (skp s0).isEmpty = true := by
   have l := hs.length_le
   unfold pos' at h4
   have : (skp s0).length = 0 := by
    rcases Nat.eq_zero_or_pos (skp s0).length with h | h
    ·exact h
    ·omega
   rw [List.isEmpty_iff, List.eq_nil_of_length_eq_zero this]
  rw [sVal_bad _ _ (.inr (.inr (.inr he)))]; exact ⟨rfl, rfl, by simp⟩
 ·have he : (skp s0).isEmpty = false := by
   cases h : skp s0 with
   | nil => rw [h] at h4; unfold pos' at h4; simp at h4
   | cons c s => rfl
  have hok : ok = true := by simpa using h3
  subst hok
  obtain ⟨k, rfl⟩ : ∃ j, k = j + 1 := ⟨k - 1, by omega⟩
  have hV := hV (by omega)
  rw [sVal_go k _ rfl (by show ¬ 400 < n + 1; omega) he]
  have hss := skp_skp s0
  have hlen := (List.dropWhile_suffix (l := s0) blkC).length_le
  change (skp s0).length ≤ s0.length at hlen
  have hne : 0 < (skp s0).length := by
   cases h : skp s0 with
   | nil => rw [h] at he; simp at he
   | cons c s => simp
  simp only [Nat.add_sub_cancel] at hV ⊢
  have hdk : ((k + 1 : Nat) : Int) - 1 = (k : Nat) := by omega
  generalize skp s0 = s at *
  generalize hm : n + 1 = m at *
  have wd : ∀ p, p.length ≤ 1000 → FnOK Tryz.prog fSWord [.ptr 0 0, .str p] [sdI t (pos' t s : Nat) m true] ⟨.bool (pfx p s), [sdI t (pos' t (bif pfx p s then s.drop p.length else s) : Nat) m true], [0]⟩ := fun p hp => sword_ok p (by omega) hp hs m true
  have tk : ∀ b, FnOK Tryz.prog fSTake [.ptr 0 0, .int .u8 (b.toNat : Nat)] [sdI t (pos' t s : Nat) m true] ⟨.bool (hdB b s), [sdI t (pos' t (bif hdB b s then s.drop 1 else s) : Nat) m true], [0]⟩ := fun b => by
   have h := stk_run b (by omega) ⟨s, m, true⟩ hs
   rw [stk_at hss] at h
   exact h
  have hd : ∀ j, s.drop j <:+ t := fun j => (List.drop_suffix j _).trans hs
  have hIn : SIn t ⟨s.drop 1, m, true⟩ := ⟨hd 1, by show 0 ≤ m; omega, by show m ≤ 400; omega⟩
  have hl3 : (s.drop 1).length + 3 = s.length + 2 := by rw [List.length_drop]; omega
  simp only [sValB, wNull, wTrue, wFalse]
  rw [drop_pos hs]
  rintro y rfl
  refine ⟨wd _ (by decide), fun h => ?_, fun h => ?_⟩
  ·dsimp only at h
   simp only [h, cond_true, wdS]
   exact ⟨rfl, rfl, by simp⟩
  dsimp only at h
  simp only [h, cond_false, wdS]
  rw [drop_pos hs]
  rintro y rfl
  refine ⟨wd _ (by decide), fun h => ?_, fun h => ?_⟩
  ·dsimp only at h
   simp only [h, cond_true]
   exact ⟨rfl, rfl, by simp⟩
  dsimp only at h
  simp only [h, cond_false]
  rw [drop_pos hs]
  rintro y rfl
  refine ⟨wd _ (by decide), fun h => ?_, fun h => ?_⟩
  ·dsimp only at h
   simp only [h, cond_true]
   exact ⟨rfl, rfl, by simp⟩
  dsimp only at h
  simp only [h, cond_false]
  rw [drop_pos hs, stk_at hss]
  rintro y rfl
  refine ⟨tk _, fun h => ?_, fun h => ?_⟩
  ·dsimp only at h
   simp only [h, cond_true]
   rw [drop_pos (hd 1)]
   rintro y rfl
   exact ⟨stext_ok (by omega) (hd 1) m true, ⟨rfl, rfl, by simp⟩⟩
  dsimp only at h
  simp only [h, cond_false]
  rw [drop_pos hs, stk_at hss]
  rintro y rfl
  refine ⟨tk _, fun h => ?_, fun h => ?_⟩
  ·dsimp only at h
   simp only [h, cond_true]
   rw [drop_pos (hd 1)]
   rintro y rfl
   rw [hl3]
   exact ⟨slist_ok (by omega) (by omega) (n := s.length + 1) hV ⟨s.drop 1, m, true⟩ hIn rfl (by simp), ⟨rfl, rfl, by simp⟩⟩
  dsimp only at h
  simp only [h, cond_false]
  rw [drop_pos hs, stk_at hss]
  rintro y rfl
  refine ⟨tk _, fun h => ?_, fun h => ?_⟩
  ·dsimp only at h
   simp only [h, cond_true]
   rw [drop_pos (hd 1)]
   rintro y rfl
   rw [hl3]
   exact ⟨sobj_ok (by omega) (by omega) (n := s.length + 1) hV ⟨s.drop 1, m, true⟩ hIn rfl (by simp), ⟨rfl, rfl, by simp⟩⟩
  dsimp only at h
  simp only [h, cond_false]
  rw [drop_pos hs]
  rintro y rfl
  exact ⟨snumber_ok (by omega) hs m true, ⟨rfl, rfl, by simp⟩⟩
theorem sLst_out {f : SS → J × SS} (hf : ∀ x, 0 ≤ x.n → x.n ≤ 400 → SOut x (f x).2) : ∀ (n : Nat) (x : SS) (L : List J), 0 ≤ x.n → x.n ≤ 401 → (x.ok = true → x.n ≤ 400) → (sLst f n x L).1.s <:+ x.s ∧ ((sLst f n x L).1.ok = true → (sLst f n x L).1.n ≤ 400) ∧ x.n ≤ (sLst f n x L).1.n ∧ (sLst f n x L).1.n ≤ 401
 | 0, x, L, h1, h2, h3 => ⟨List.suffix_refl _, h3, Int.le_refl _, h2⟩
 | n + 1, x, L, h1, h2, h3 => by
  cases hx : x.ok with
  | false => rw [sLst_off _ _ _ _ hx]; exact ⟨List.suffix_refl _, fun h => (by rw [hx] at h; cases h), Int.le_refl _, h2⟩
  | true =>
   have h4 := h3 hx
   rw [sLst, hx]
   simp only [cond_true]
   cases (x.tk 93).1 with
   | true => exact ⟨stk_suf 93 x, fun _ => h4, Int.le_refl _, h2⟩
   | false =>
    simp only [cond_false]
    have hx2 : (bif L.isEmpty then (x.tk 93).2 else (x.tk 93).2.nd 44).s <:+ x.s ∧ (bif L.isEmpty then (x.tk 93).2 else (x.tk 93).2.nd 44).n = x.n := by
     cases L.isEmpty with
     | true => exact ⟨stk_suf 93 x, rfl⟩
     | false => exact ⟨(snd_suf 44 _).trans (stk_suf 93 x), rfl⟩
    generalize (bif L.isEmpty then (x.tk 93).2 else (x.tk 93).2.nd 44) = x2 at *
    have o := hf x2 (by omega) (by omega)
    have o3 := o.lo
    obtain ⟨q1, q2, q3, q4⟩ := sLst_out hf n (f x2).2 (L ++ [(f x2).1]) (by omega) o.hi (fun h => (o.on h).2)
    exact ⟨q1.trans (o.suf.trans hx2.1), q2, by omega, q4⟩
theorem sObj_out {f : SS → J × SS} (hf : ∀ x, 0 ≤ x.n → x.n ≤ 400 → SOut x (f x).2) : ∀ (n : Nat) (x : SS) (a : KL), 0 ≤ x.n → x.n ≤ 401 → (x.ok = true → x.n ≤ 400) → (sObj f n x a).1.s <:+ x.s ∧ ((sObj f n x a).1.ok = true → (sObj f n x a).1.n ≤ 400) ∧ x.n ≤ (sObj f n x a).1.n ∧ (sObj f n x a).1.n ≤ 401
 | 0, x, a, h1, h2, h3 => ⟨List.suffix_refl _, h3, Int.le_refl _, h2⟩
 | n + 1, x, a, h1, h2, h3 => by
  cases hx : x.ok with
  | false => rw [sObj_off _ _ _ _ hx]; exact ⟨List.suffix_refl _, fun h => (by rw [hx] at h; cases h), Int.le_refl _, h2⟩
  | true =>
   have h4 := h3 hx
   rw [sObj_on _ _ _ _ hx]
   cases (x.tk 125).1 with
   | true => exact ⟨stk_suf 125 x, fun _ => h4, Int.le_refl _, h2⟩
   | false =>
    simp only [cond_false]
    have hx2 : (bif a.its.isEmpty then (x.tk 125).2 else (x.tk 125).2.nd 44).s <:+ x.s ∧ (bif a.its.isEmpty then (x.tk 125).2 else (x.tk 125).2.nd 44).n = x.n := by
     cases a.its.isEmpty with
     | true => exact ⟨stk_suf 125 x, rfl⟩
     | false => exact ⟨(snd_suf 44 _).trans (stk_suf 125 x), rfl⟩
    generalize (bif a.its.isEmpty then (x.tk 125).2 else (x.tk 125).2.nd 44) = x2 at *
    have o := sField_out hf x2 a (by omega) (by omega)
    have o3 := o.lo
    obtain ⟨q1, q2, q3, q4⟩ := sObj_out hf n (sField f x2 a).1 (sField f x2 a).2 (by omega) o.hi (fun h => (o.on h).2)
    exact ⟨q1.trans (o.suf.trans hx2.1), q2, by omega, q4⟩
theorem snV_pos {s : List UInt8} (h : (snV s).2 = true) : (snR s).length + 1 ≤ s.length := by
 have e := congrArg List.length (snD_app s)
 rw [List.length_append] at e
 have hd : 0 < (snD s).2.1.length := by
  rcases Nat.eq_zero_or_pos (snD s).2.1.length with h0 | h0
  ·unfold snV l0N at h
   rw [if_pos (.inl h0)] at h
   cases h
  ·exact h0
 have h3 : (snD s).2.1.length ≤ (l0S (snD s).1 (snD s).2.1).length := by unfold l0S; split <;> simp
 unfold snR
 omega
theorem sVal_out : ∀ (k : Nat) (x : SS), 0 ≤ x.n → x.n ≤ 400 → SOut x (sVal k x).2
 | 0, x, h1, h2 => ⟨List.dropWhile_suffix _, fun h => (by cases h), by show x.n ≤ x.n + 1; omega, by show x.n + 1 ≤ 401; omega⟩
 | k + 1, x, h1, h2 => by
  have hs : skp x.s <:+ x.s := List.dropWhile_suffix _
  by_cases hb : x.ok = false ∨ 400 < x.n + 1 ∨ (skp x.s).isEmpty = true
  ·rw [sVal_bad _ _ (.inr hb)]
   exact ⟨hs, fun h => (by cases h), by show x.n ≤ x.n + 1; omega, by show x.n + 1 ≤ 401; omega⟩
  ·simp only [not_or, Bool.not_eq_true, Bool.not_eq_false] at hb
   rw [sVal_go k x hb.1 hb.2.1 hb.2.2]
   have hn := hb.2.1
   have hne : 0 < (skp x.s).length := by
    cases h : skp x.s with
    | nil => rw [h] at hb; simp at hb
    | cons c s => simp
   have l1 := hs.length_le
   have simple : ∀ (s' : List UInt8) (b : Bool), s' <:+ (skp x.s) → s'.length + 1 ≤ (skp x.s).length → SOut x ⟨s', x.n + 1, b⟩ := fun s' b h hl => ⟨h.trans hs, fun _ => ⟨by show s'.length + 1 ≤ x.s.length; omega, by show x.n + 1 ≤ 400; omega⟩, by show x.n ≤ x.n + 1; omega, by show x.n + 1 ≤ 401; omega⟩
   have hd : ∀ j, 1 ≤ j → ((skp x.s).drop j).length + 1 ≤ (skp x.s).length := fun j hj => by rw [List.length_drop]; omega
   unfold sValB
   cases pfx wNull (skp x.s) with
   | true => exact simple _ _ (List.drop_suffix 4 _) (hd 4 (by omega))
   | false =>
   cases pfx wTrue (skp x.s) with
   | true => exact simple _ _ (List.drop_suffix 4 _) (hd 4 (by omega))
   | false =>
   cases pfx wFalse (skp x.s) with
   | true => exact simple _ _ (List.drop_suffix 5 _) (hd 5 (by omega))
   | false =>
   cases hdB 34 (skp x.s) with
   | true =>
    have h3 := stxE_suf true ((skp x.s).drop 1)
    exact simple _ _ (h3.trans (List.drop_suffix 1 _)) (by have := h3.length_le; have := hd 1 (by omega); omega)
   | false =>
   cases hdB 91 (skp x.s) with
   | true =>
    obtain ⟨q1, q2, q3, q4⟩ := sLst_out (sVal_out k) ((skp x.s).length + 2) ⟨(skp x.s).drop 1, x.n + 1, true⟩ [] (by show 0 ≤ x.n + 1; omega) (by show x.n + 1 ≤ 401; omega) (fun _ => by show x.n + 1 ≤ 400; omega)
    have l3 := q1.length_le
    have l4 := hd 1 (by omega)
    simp only at l3 q3
    exact ⟨(q1.trans (List.drop_suffix 1 _)).trans hs, fun h => ⟨by simp only [cond_true, cond_false]; omega, q2 h⟩, by simp only [cond_true, cond_false]; omega, q4⟩
   | false =>
   cases hdB 123 (skp x.s) with
   | true =>
    obtain ⟨q1, q2, q3, q4⟩ := sObj_out (sVal_out k) ((skp x.s).length + 2) ⟨(skp x.s).drop 1, x.n + 1, true⟩ ⟨[], []⟩ (by show 0 ≤ x.n + 1; omega) (by show x.n + 1 ≤ 401; omega) (fun _ => by show x.n + 1 ≤ 400; omega)
    have l3 := q1.length_le
    have l4 := hd 1 (by omega)
    simp only at l3 q3
    exact ⟨(q1.trans (List.drop_suffix 1 _)).trans hs, fun h => ⟨by simp only [cond_true, cond_false]; omega, q2 h⟩, by simp only [cond_true, cond_false]; omega, q4⟩
   | false =>
    refine ⟨(snR_suf _).trans hs, fun h => ⟨?_, by show x.n + 1 ≤ 400; omega⟩, by show x.n ≤ x.n + 1; omega, by show x.n + 1 ≤ 401; omega⟩
    have := snV_pos (s := skp x.s) h
    show (snR (skp x.s)).length + 1 ≤ x.s.length
    omega
theorem svalue_ok {t : List UInt8} (ht : t.length ≤ 400000) : ∀ (k : Nat), k ≤ 12 → SValOK t (k : Nat) (sVal k)
 | 0, hk => ⟨fun x hx => svalue_run ht hk (fun h => by omega) x hx, sVal_out 0⟩
 | k + 1, hk => ⟨fun x hx => svalue_run ht hk (fun _ => by
   have := svalue_ok ht k (by omega)
   rw [show ((k + 1 : Nat) : Int) - 1 = (k : Nat) by omega]
   exact this) x hx, sVal_out (k + 1)⟩
end Go.Proofs.YtfncaghjfgnnhaaGreatDoor

namespace Go.Proofs.YtfncaghjfgnnhaaGreatDoor
open Go.RowKit
set_option maxRecDepth 100000
inductive RJ : J → Prop where
 | mk {j : J} (h : partJ j = true) (hi : ∀ x ∈ j.items, RJ x) : RJ j
theorem RJ.part {j : J} : RJ j → partJ j = true | .mk h _ => h
theorem RJ.item {j : J} : RJ j → ∀ x ∈ j.items, RJ x | .mk _ h => h
mutual
theorem rightJ_rj : ∀ (j : J) (d room : Int), 0 ≤ room → (rightJ j d room).1 = true → RJ j ∧ (rightJ j d room).2 + jn j = room
 | .mk k n t ks its, d, room, h, ht => by
  rw [rightJ] at ht ⊢
  split at ht
  ·cases ht
  ·rename_i hc
   rw [if_neg hc]
   simp only [not_or, Bool.not_eq_false] at hc
   have := rightJs_rj its (d + 1) (room - 1) (by omega) ht
   exact ⟨.mk hc.2.2 this.1, by rw [jn]; omega⟩
theorem rightJs_rj : ∀ (L : List J) (d room : Int), 0 ≤ room → (rightJs L d room).1 = true → (∀ x ∈ L, RJ x) ∧ (rightJs L d room).2 + jns L = room
 | [], d, room, h, ht => by rw [rightJs]; simp [jns]
 | j :: js, d, room, h, ht => by
  rw [rightJs] at ht ⊢
  split at ht
  ·rename_i hc
   rw [if_pos hc]
   have h0 := rightJ_room j d room h hc
   have h1 := rightJ_rj j d room h hc
   have h2 := rightJs_rj js d _ h0.1 ht
   refine ⟨fun x hx => ?_, by rw [jns]; omega⟩
   rcases List.mem_cons.1 hx with rfl | hx
   ·exact h1.1
   ·exact h2.1 x hx
  ·cases ht
end
theorem okJ_rj {j : J} (h : okJ j = true) : RJ j ∧ jn j ≤ 400 := by
 have h1 := rightJ_rj j 0 400 (by omega) h
 have h2 := rightJ_room j 0 400 (by omega) h
 exact ⟨h1.1, by omega⟩
structure Flds (j : J) : Prop where
 kind : 0 ≤ j.kind ∧ j.kind ≤ 5
 n : -1000000000 ≤ j.n ∧ j.n ≤ 1000000000
 bool : j.kind = 1 → 0 ≤ j.n ∧ j.n < 2
 t : j.t.length ≤ 200
 keys : ∀ s ∈ j.keys, s.length ≤ 200
 obj : j.kind = 5 → j.items.length = j.keys.length
 kl : j.keys.length ≤ j.items.length
theorem areK_mem : ∀ {ks : List (List UInt8)}, areK ks = true → ∀ s ∈ ks, plainT s = true
 | [], _, s, hs => by cases hs
 | [k], h, s, hs => by simp only [List.mem_singleton] at hs; subst hs; exact h
 | k :: k' :: t, h, s, hs => by
  rw [areK, Bool.and_eq_true, Bool.and_eq_true] at h
  rcases List.mem_cons.1 hs with rfl | hs
  ·exact h.1.1
  ·exact areK_mem h.2 s hs
theorem plainT_len {t : List UInt8} (h : plainT t = true) : t.length ≤ 200 := by
 unfold plainT at h; rw [Bool.and_eq_true, decide_eq_true_eq] at h; exact h.2
theorem part_flds {j : J} (h : partJ j = true) : Flds j := by
 obtain ⟨k, n, t, ks, its⟩ := j
 have hp := @plainT_len t
 have hk := @areK_mem ks
 unfold partJ at h
 by_cases h0 : k = 0
 ·subst h0; simp at h; obtain ⟨⟨⟨rfl, rfl⟩, rfl⟩, rfl⟩ := h; constructor <;> simp [J.kind, J.n, J.t, J.keys, J.items]
 by_cases h1 : k = 1
 ·subst h1; simp at h; obtain ⟨⟨⟨h, rfl⟩, rfl⟩, rfl⟩ := h; constructor <;> simp [J.kind, J.n, J.t, J.keys, J.items] <;> omega
 by_cases h2 : k = 2
 ·subst h2; simp at h; obtain ⟨⟨⟨h, rfl⟩, rfl⟩, rfl⟩ := h; constructor <;> simp [J.kind, J.n, J.t, J.keys, J.items] <;> omega
 by_cases h3 : k = 3
 ·subst h3; simp at h; obtain ⟨⟨⟨rfl, h⟩, rfl⟩, rfl⟩ := h; constructor <;> simp [J.kind, J.n, J.t, J.keys, J.items]; exact hp h
 by_cases h4 : k = 4
 ·subst h4; simp at h; obtain ⟨⟨rfl, rfl⟩, rfl⟩ := h; constructor <;> simp [J.kind, J.n, J.t, J.keys, J.items]
 by_cases h5 : k = 5
 ·subst h5; simp at h; obtain ⟨⟨⟨rfl, rfl⟩, he⟩, h⟩ := h; constructor <;> simp [J.kind, J.n, J.t, J.keys, J.items]
  ·exact fun s hs => plainT_len (hk h s hs)
  ·omega
  ·omega
 ·simp [h0, h1, h2, h3, h4, h5] at h
theorem dg_small (n : Int) (_ : -1000000000 ≤ n ∧ n ≤ 1000000000) : (dg n).length ≤ 400 := by
 have := dg_len n; omega
mutual
theorem pj_len : ∀ (j : J), RJ j → (pj j).length + 404 ≤ 900 * jn j
 | .mk k n t ks its, h => by
  have hf := part_flds h.part
  have hs := pjs_len2 (k == 5) its h.item true ks hf.keys
  have ht := quo_len t
  have hd := dg_small n hf.n
  have h1 := hf.t
  have h2 := hf.kind
  simp only [J.t, J.kind] at h1 h2
  rw [pj, jn]
  skip
  have hb : ([[102, 97, 108, 115, 101], [116, 114, 117, 101]].getD n.toNat ([] : List UInt8)).length ≤ 5 := by
   rcases n.toNat with _ | _ | m <;> simp
  have e1 : (if k = 5 then [123] else [91] : List UInt8).length = 1 := by split <;> rfl
  have e2 : (if k = 5 then [125] else [93] : List UInt8).length = 1 := by split <;> rfl
  by_cases c0 : k = 0
  ·rw [if_pos c0]; simp only [List.length_cons, List.length_nil]; omega
  by_cases c1 : k = 1
  ·rw [if_neg c0, if_pos c1]; omega
  by_cases c2 : k = 2
  ·rw [if_neg c0, if_neg c1, if_pos c2]; omega
  by_cases c3 : k = 3
  ·rw [if_neg c0, if_neg c1, if_neg c2, if_pos c3]; omega
  ·rw [if_neg c0, if_neg c1, if_neg c2, if_neg c3]; simp only [List.length_append, e1, e2]; omega
theorem pjs_len2 : ∀ (o : Bool) (L : List J), (∀ x ∈ L, RJ x) → ∀ (a : Bool) (ks : List (List UInt8)), (∀ s ∈ ks, s.length ≤ 200) → (pjs o a ks L).length ≤ 900 * jns L
 | _, [], _, a, ks, _ => by simp [pjs]
 | o, j :: js, h, a, ks, hk => by
  have h1 := pj_len j (h j (by simp))
  have h2 := pjs_len2 o js (fun x hx => h x (by simp [hx])) false ks.tail (fun s hs => hk s (List.mem_of_mem_tail hs))
  have h3 := quo_len (ks.headD [])
  have h4 : (ks.headD []).length ≤ 200 := by
   cases ks with
   | nil => simp
   | cons k t => exact hk k (by simp)
  rw [pjs, jns]
  simp only [List.length_append]
  have h5 : (if a = true then ([] : List UInt8) else [44]).length ≤ 1 := by split <;> simp
  have h6 : (if o = true then quo (ks.headD []) ++ [58] else []).length ≤ 403 := by split; (simp only [List.length_append, List.length_singleton]; omega); simp
  omega
end
theorem jns_mem {L : List J} : ∀ x ∈ L, jn x ≤ jns L := by
 induction L with
 | nil => simp
 | cons j js ih =>
  intro x hx
  rw [jns]
  rcases List.mem_cons.1 hx with rfl | hx
  ·omega
  ·have := ih x hx; omega
theorem jns_length : ∀ L : List J, L.length ≤ jns L
 | [] => by simp
 | j :: js => by
  have := jns_length js
  obtain ⟨k, n, t, ks, its⟩ := j
  rw [jns, jn, List.length_cons]; omega
theorem iprint_ok : ∀ (m : Nat) (j : J), jn j ≤ m → m ≤ 1000 → RJ j → FnOK Tryz.prog fIPrint [.agg (vwJ j)] [] ⟨.str (pj j), [], []⟩
 | 0, .mk k n t ks its, hm, _, _ => by rw [jn] at hm; omega
 | m + 1, j, hm, hm2, h => by
  have hf := part_flds h.part
  have hn : jn j = 1 + jns j.items := by obtain ⟨k, n, t, ks, its⟩ := j; rw [jn]; rfl
  have hl := jns_length j.items
  have hs := pjs_len2 (j.kind == 5) j.items h.item true j.keys hf.keys
  refine iprint_top j ⟨hf.bool, by have := hf.n; omega, by have := hf.t; omega⟩ hf.kind (by have := hf.t; omega) ⟨fun x hx => ⟨iprint_ok m x (by have := jns_mem x hx; omega) (by omega) (h.item x hx), ?_⟩, fun s hs => by have := hf.keys s hs; omega, by omega, fun h5 => by have := hf.obj h5; omega⟩ (by omega)
  have := pj_len x (h.item x hx)
  have := jns_mem x hx
  omega
end Go.Proofs.YtfncaghjfgnnhaaGreatDoor

namespace Go.Proofs.YtfncaghjfgnnhaaGreatDoor
open Go.RowKit
set_option maxRecDepth 100000
abbrev fSource : Nat := 32
def srcNew (l : List UInt8) : Src := ⟨l, 0, (l.length % 1000 : Nat)⟩
set_option maxRecDepth 100000 in
theorem sourceT (l : List UInt8) : fnT E0 1 fSource [sls encByte l] [] = (
 .need [(1000 : Int) ≠ (0 : Int)] (.done (Ret.mk (.ptr 0 0) [some ([.dsl l.length false (encs encByte l), .int .i64 0, .int .i64 (Int.tmod (↑l.length : Int) (1000 : Int))], 67)] [])) : T _) := (T.force_eq _).symm.trans (by kernel_rfl)
theorem source_ok (l : List UInt8) : FnOK Tryz.prog fSource [sls encByte l] [] ⟨.ptr 0 0, [srcB (srcNew l)], []⟩ := by
 refine fnOK_TL (E := E0) follows named (sourceT l) (by simp) ?_
 simp only [T.WP, All, and_true, ne_eq]
 refine ⟨by omega, rfl, ?_, by simp⟩
 have e : ((l.length : Int)).tmod 1000 = ((l.length % 1000 : Nat) : Int) := by
  rw [Int.tmod_eq_emod_of_nonneg (by omega)]; omega
 rw [e]; rfl
theorem srcNew_ok (l : List UInt8) (h : l.length ≤ 1048576) : (srcNew l).OK 1000000 := ⟨h, by simp [srcNew], by simp only [srcNew]; omega, by simp only [srcNew]; omega⟩
end Go.Proofs.YtfncaghjfgnnhaaGreatDoor

namespace Go.Proofs.YtfncaghjfgnnhaaGreatDoor
open Go.RowKit
set_option maxRecDepth 100000
noncomputable def resPJ : ResT := fun f vs hp => match vs, hp with
 | [.agg [.int _ k, .int _ n, .str t, .dsl _ _ ks, .dsl _ _ its]], [] => bif Nat.beq f fIJsonOK then some ⟨okJ (jOf k n t ks its), fun y => ⟨.bool y, [], []⟩⟩ else bif Nat.beq f fIPrint then some ⟨pj (jOf k n t ks its), fun y => ⟨.str y, [], []⟩⟩ else none
 | _, _ => none
set_option maxRecDepth 100000 in
theorem printJsonT (j : J) : fnT { P := Tryz.prog, vw := vwA, res := resPJ } 0 fIPrintJson [.agg (vwJ j)] [] = (
 .bind (okJ (jOf (J.kind j) (J.n j) (J.t j) (encs encStr (J.keys j)) (encs encJ (J.items j)))) fun y0 => .need [FnOK Tryz.prog 15 [.agg [.int .i64 (J.kind j), .int .i64 (J.n j), .str (J.t j), .dsl (List.length (J.keys j)) false (encs encStr
 (J.keys j)), .dsl (List.length (J.items j)) false (encs encJ (J.items j))]] [] (Ret.mk (.bool y0) [] [])] (bif !y0 then .done (Ret.mk (.tup [.str [], .int .i64 1]) [] []) else .bind (pj (jOf (J.kind j) (J.n j) (J.t j) (encs encStr (J.keys
 j)) (encs encJ (J.items j)))) fun y1 => .need [FnOK Tryz.prog 34 [.agg [.int .i64 (J.kind j), .int .i64 (J.n j), .str (J.t j), .dsl (List.length (J.keys j)) false (encs encStr (J.keys j)), .dsl (List.length (J.items j)) false (encs encJ
 (J.items j))]] [] (Ret.mk (.str y1) [] [])] (.done (Ret.mk (.tup [.str y1, .int .i64 0]) [] []))) : T _) := (T.force_eq _).symm.trans (by kernel_rfl)
theorem RJ.mj {j : J} (h : RJ j) (m : Nat) (hm : jn j ≤ m) (hm2 : m ≤ 4294967296) : MJ j := by
 induction m generalizing j with
 | zero => obtain ⟨k, n, t, ks, its⟩ := j; rw [jn] at hm; omega
 | succ m ih =>
  have hf := part_flds h.part
  have hn : jn j = 1 + jns j.items := by obtain ⟨k, n, t, ks, its⟩ := j; rw [jn]; rfl
  have hl := jns_length j.items
  refine .mk ⟨by have := hf.t; omega, by have := hf.kl; omega, fun s hs => by have := hf.keys s hs; omega⟩ (by omega) fun x hx => ih (h.item x hx) (by have := jns_mem x hx; omega) (by omega)
theorem printJson_ok (j : J) (h : okJ j = true) : FnOK Tryz.prog fIPrintJson [.agg (vwJ j)] [] ⟨.tup [.str (pj j), .int .i64 0], [], []⟩ := by
 refine fnOK_TL (E := { P := Tryz.prog, vw := vwA, res := resPJ }) follows named (printJsonT j) (by simp) ?_
 have hr := okJ_rj h
 simp only [WP_cond, T.WP, All, and_true, jOf_vw]
 rintro y rfl
 refine ⟨jsonOK_ok j (hr.1.mj 400 hr.2 (by omega)), fun h0 => by rw [h] at h0; simp at h0, fun _ => ?_⟩
 rintro y rfl
 exact ⟨iprint_ok 400 j hr.2 (by omega) hr.1, ⟨rfl, rfl, by simp⟩⟩
end Go.Proofs.YtfncaghjfgnnhaaGreatDoor

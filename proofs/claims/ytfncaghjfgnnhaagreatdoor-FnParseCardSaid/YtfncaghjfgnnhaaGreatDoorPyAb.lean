/-
  The small evaluator's plain operations, all together.
  The small evaluator's plain operations: the whole.
  The small evaluator's plain operations: one law for all.
  The small evaluator: some more operations.
  The small evaluator: calls, regions, code, functions.
  The small evaluator: renaming and calls do what the machine does.
  The small evaluator: one operation of a region; the regions.
  The small evaluator: a region in whatever order.
-/
import Derived.Test.YtfncaghjfgnnhaaGreatDoorPyAa
import Derived.Laws.Slices
import Derived.LoopN
import Derived.Orders
namespace Go.Proofs.YtfncaghjfgnnhaaGreatDoor
open Go.RowKit
set_option maxRecDepth 100000
section
variable {P : Program} {I : Nat → Prop} {μ μ' : Mu} {w w' : World} {hp : Hp} {out : Out}
theorem len_sound {t ty : TypeId} {x : V} {vx : Value} (h : evLen P hp t x = some out) (hx : V.R P I μ w x vx) :
  out.hp = hp ∧ out.wr = [] ∧ out.acc = [] ∧ ∃ val, (Builtin.len_ #[t] ty #[vx]).run P w = .ok val w ∧ V.R P I μ w out.v val := by
 unfold evLen at h
 split at h
 case h_4 => cases h
 all_goals (split at h <;> cases h) <;> rename_i hu <;> simp only [V.R] at hx
 ·subst hx
  refine ⟨rfl, rfl, rfl, goInt _, by simp [Builtin.len_, run_underlying hu]; rfl, by simp [V.R, goInt, ByteArray.size]⟩
 ·rcases hx with ⟨g, cap, e, N, i, _, rfl, _⟩ | ⟨_, rfl, a', rfl, _⟩
  ·refine ⟨rfl, rfl, rfl, _, by simp [Builtin.len_, run_underlying hu]; rfl, by simp [V.R, goInt]⟩
  ·refine ⟨rfl, rfl, rfl, _, by simp [Builtin.len_, run_underlying hu]; rfl, by simp [V.R, goInt]⟩
 ·obtain ⟨a, cap, rfl, _⟩ := hx
  refine ⟨rfl, rfl, rfl, _, by simp [Builtin.len_, run_underlying hu]; rfl, by simp [V.R, goInt]⟩
theorem flatEq_sound {d : Nat} {f : Field} {x y : V} {vx vy : Value} {r : Bool} (h : flatEq P f x y = some r) (hx : V.R P I μ w x vx) (hy : V.R P I μ w y vy) :
  (Op.equalIn (d + 1) f.type vx vy).run P w = .ok r w ∧ ∃ dd, P.underlying f.type = some dd ∧ rowD dd = false := by
 unfold flatEq at h
 split at h
 case h_4 => cases h
 all_goals rename_i hu; simp only [V.R] at hx hy
 ·subst hx hy
  split at h
  ·rename_i hk; subst hk; cases h
   exact ⟨run_equalIn_int w d _ _ _ _ _ hu, _, hu, rfl⟩
  ·cases h
 ·subst hx hy; cases h; exact ⟨run_equalIn_bool w d _ _ _ hu, _, hu, rfl⟩
 ·subst hx hy; cases h
  refine ⟨?_, _, hu, rfl⟩
  rw [run_equalIn_string w d _ _ _ hu]; simp
theorem flatEqs_sound {d : Nat} {xs ys : List V} {vx vy : Array Value} (hx : V.RL P I μ w xs vx.toList) (hy : V.RL P I μ w ys vy.toList) : ∀ {fs : List Field} {r : Bool}, flatEqs P xs ys fs = some r →
  (Op.eqFields (d + 1) vx vy fs).run P w = .ok r w
 | [], r, h => by cases h; simp [Op.eqFields]
 | f :: fs, r, h => by
  unfold flatEqs at h
  split at h
  case isTrue => cases h
  case isFalse hn =>
  split at h
  case h_2 => cases h
  case h_1 x y hxo hyo =>
  obtain ⟨u, hu, hru⟩ := hx.get hxo
  obtain ⟨v, hv, hrv⟩ := hy.get hyo
  have hpart : ∀ (vs : Array Value) (u : Value) (dd : TypeDesc), vs.toList[f.offset]? = some u → P.underlying f.type = some dd → rowD dd = false → (part f.type vs f.offset).run P w = .ok u w := by
   intro vs u dd hu hd hr
   rw [Array.getElem?_toList] at hu
   simp only [part, Sem.run_bind, run_isAgg hd, Result.andThen_ok, hr, Bool.false_eq_true, if_false, hu, Sem.run_pure]
  split at h
  ·rename_i he
   obtain ⟨h1, dd, hd, hr⟩ := flatEq_sound (d := d) he hru hrv
   have ih := flatEqs_sound (d := d) hx hy h
   simp only [Op.eqFields, ne_eq, hn, not_false_eq_true, if_true, Sem.run_bind, hpart vx u dd hu hd hr, hpart vy v dd hv hd hr, Result.andThen_ok, h1, Bool.not_true, Bool.false_eq_true, if_false, ih]
  ·rename_i he
   cases h
   obtain ⟨h1, dd, hd, hr⟩ := flatEq_sound (d := d) he hru hrv
   simp only [Op.eqFields, ne_eq, hn, not_false_eq_true, if_true, Sem.run_bind, hpart vx u dd hu hd hr, hpart vy v dd hv hd hr, Result.andThen_ok, h1, Bool.not_false, Sem.run_pure]
  ·cases h
theorem int_sound {t : TypeId} {op : BinOp} {k : IntKind} {a b : Int} {v : V} (h : evInt op k a b = some v) : ∃ val, (binOp op t (.int k a) (.int k b)).run P w = .ok val w ∧ V.R P I μ w v val := by
 unfold evInt at h
 split at h
 ·cases h; exact ⟨.int k (k.wrap (a + b)), by simp [binOp, Op.intArith], by simp [V.R]⟩
 ·cases h; exact ⟨.int k (k.wrap (a - b)), by simp [binOp, Op.intArith], by simp [V.R]⟩
 ·cases h; exact ⟨.int k (k.wrap (a * b)), by simp [binOp, Op.intArith], by simp [V.R]⟩
 ·split at h
  ·cases h
  ·rename_i hb; cases h; exact ⟨.int k (k.wrap (a.tdiv b)), by simp [binOp, Op.intDiv, hb], by simp [V.R]⟩
 ·split at h
  ·cases h
  ·rename_i hb; cases h; exact ⟨.int k (a.tmod b), by simp [binOp, Op.intDiv, hb], by simp [V.R]⟩
 ·unfold evCmp at h
  split at h <;> cases h
  all_goals refine ⟨_, by simp only [binOp]; simp [Op.intCmp]; rfl, by simp [V.R]⟩
theorem str_sound {t : TypeId} {op : BinOp} {a b : List UInt8} {v : V} (h : evStr op a b = some v) : ∃ val, (binOp op t (.string ⟨a.toArray⟩) (.string ⟨b.toArray⟩)).run P w = .ok val w ∧ V.R P I μ w v val := by
 unfold evStr at h
 split at h
 ·split at h
  ·rename_i hl
   cases h
   refine ⟨.string ⟨(a ++ b).toArray⟩, ?_, by simp [V.R]⟩
   have hn : ¬ (9223372036854775807 < (a.length : Int) + (b.length : Int)) := by omega
   have e : (⟨a.toArray⟩ ++ ⟨b.toArray⟩ : ByteArray) = ⟨(a ++ b).toArray⟩ := by apply ByteArray.ext; simp
   simp only [binOp]
   simp [Op.stringOp, ByteArray.size, hn, e]
  ·cases h
 all_goals first | (cases h; done) | skip
 all_goals
  cases h
  refine ⟨_, by simp only [binOp]; simp [Op.stringOp]; rfl, by simp [V.R]⟩
theorem guard_int (op : BinOp) (t : TypeId) (ox oy : Operand) (k k' : IntKind) (a b : Int) : (eqGuard op t ox oy (.int k a) (.int k' b)).run P w = .ok () w := by cases op <;> rfl
theorem guard_str (op : BinOp) (t : TypeId) (ox oy : Operand) (a b : ByteArray) : (eqGuard op t ox oy (.string a) (.string b)).run P w = .ok () w := by cases op <;> rfl
theorem guard_bool (op : BinOp) (t : TypeId) (ox oy : Operand) (a b : Bool) : (eqGuard op t ox oy (.bool a) (.bool b)).run P w = .ok () w := by cases op <;> rfl
theorem guard_slice (op : BinOp) (t : TypeId) (ox oy : Operand) (a : Option Addr) (l c : Nat) (b : Option Addr) (m d : Nat) : (eqGuard op t ox oy (.slice a l c) (.slice b m d)).run P w = .ok () w := by cases op <;> rfl
theorem bin_sound {op : BinOp} {t : TypeId} {ox oy : Operand} {x y v : V} {vx vy : Value} (h : evBin P op t x y = some v) (hx : V.R P I μ w x vx) (hy : V.R P I μ w y vy) :
  ∃ val, (do eqGuard op t ox oy vx vy; binOp op t vx vy : Sem Value).run P w = .ok val w ∧ V.R P I μ w v val := by
 unfold evBin at h
 split at h
 ·simp only [V.R] at hx hy
  subst hx hy
  split at h
  ·rename_i hk; subst hk
   obtain ⟨val, h1, h2⟩ := int_sound (P := P) (I := I) (μ := μ) (w := w) (t := t) h
   exact ⟨val, by rw [Sem.run_bind, guard_int]; exact h1, h2⟩
  ·cases h
 ·simp only [V.R] at hx hy
  subst hx hy
  obtain ⟨val, h1, h2⟩ := str_sound (P := P) (I := I) (μ := μ) (w := w) (t := t) h
  exact ⟨val, by rw [Sem.run_bind, guard_str]; exact h1, h2⟩
 ·simp only [V.R] at hx hy
  subst hx hy
  split at h
  ·rename_i hu
   cases h
   refine ⟨_, by rw [Sem.run_bind, guard_bool]; simp only [Result.andThen_ok, binOp]; simp [run_equal_bool w t _ _ hu]; rfl, by simp [V.R]⟩
  ·rename_i hu
   cases h
   refine ⟨_, by rw [Sem.run_bind, guard_bool]; simp only [Result.andThen_ok, binOp]; simp [run_equal_bool w t _ _ hu]; rfl, by simp [V.R]⟩
  ·cases h
 ·simp only [V.R] at hx hy
  obtain ⟨ax, rfl, hx⟩ := hx
  obtain ⟨ay, rfl, hy⟩ := hy
  split at h
  ·rename_i fs hu hst hgt
   cases hr : flatEqs P _ _ fs.toList with
   | none => rw [hr] at h; cases h
   | some r =>
    rw [hr] at h; cases h
    have hf : P.fieldsOf t = fs := by simp [Program.fieldsOf, hu]
    refine ⟨.bool r, ?_, by simp [V.R]⟩
    rw [Sem.run_bind, run_eqGuard_agg w .eql t ox oy ax ay hgt]
    simp only [Result.andThen_ok]
    rw [run_eql_struct, run_equalIn_struct w 9999 t ax ay (by rw [hf]; exact hu) hst, hf, flatEqs_sound hx hy hr]
    rfl
  ·rename_i fs hu hst hgt
   cases hr : flatEqs P _ _ fs.toList with
   | none => rw [hr] at h; cases h
   | some r =>
    rw [hr] at h; cases h
    have hf : P.fieldsOf t = fs := by simp [Program.fieldsOf, hu]
    refine ⟨.bool (!r), ?_, by simp [V.R]⟩
    rw [Sem.run_bind, run_eqGuard_agg w .neq t ox oy ax ay hgt]
    simp only [Result.andThen_ok]
    rw [run_neq_struct, run_equalIn_struct w 9999 t ax ay (by rw [hf]; exact hu) hst, hf, flatEqs_sound hx hy hr]
    rfl
  ·cases h
 ·cases h
theorem un_sound {op : UnOp} {x v : V} {vx : Value} (h : evUn op x = some v) (hx : V.R P I μ w x vx) : ∃ val, (Op.unary op vx).run P w = .ok val w ∧ V.R P I μ w v val := by
 unfold evUn at h
 split at h
 case h_3 => cases h
 all_goals (split at h <;> cases h) <;> (simp only [V.R] at hx; subst hx)
 ·exact ⟨_, by simp [Op.unary, Op.intArith]; rfl, by simp [V.R]⟩
 ·exact ⟨_, by simp [Op.unary]; rfl, by simp [V.R]⟩
theorem bytes_sound : ∀ {cs : List V} {l : List UInt8} {vs : List Value}, bytesV cs = some l → V.RL P I μ w cs vs → vs = bv l
 | [], l, vs, h, hr => by cases h; simpa [V.RL, bv] using hr
 | c :: cs, l, vs, h, hr => by
  unfold bytesV at h
  split at h
  ·rename_i e; cases e
  ·rename_i n cs' e
   cases e
   split at h
   ·rename_i hn
    cases hb : bytesV cs with
    | none => rw [hb] at h; cases h
    | some l' =>
     rw [hb] at h; cases h
     simp only [V.RL] at hr
     obtain ⟨u, us, rfl, h1, h2⟩ := hr
     simp only [V.R] at h1
     subst h1
     have := bytes_sound hb h2
     subst this
     have hm : n % 256 = n := by omega
     simp [bv, UInt8.toNat_ofNat']
     omega
   ·cases h
  ·cases h
theorem bytes_noO : ∀ {cs : List V} {l : List UInt8}, bytesV cs = some l → noOs cs = true
 | [], _, _ => rfl
 | c :: cs, l, h => by
  unfold bytesV at h
  split at h
  ·rename_i e; cases e
  ·rename_i n t e
   split at h
   ·obtain ⟨l', h1, _⟩ := Option.map_eq_some_iff.1 h
    cases e
    have := bytes_noO h1
    unfold noOs at this ⊢
    rw [List.all_cons, this]; rfl
   ·cases h
  ·cases h
theorem conv_sound {s d : TypeId} {x : V} {vx : Value} (h : evConv P hp s d x = some out) (hx : V.R P I μ w x vx) (pre : Pre P I μ w hp out.acc out.hp.length) :
  ∃ val w' μ', (convert s d vx).run P w = .ok val w' ∧ V.R P I μ' w' out.v val ∧ Good P I I μ μ' w w' hp out.hp out.acc out.wr := by
 unfold evConv at h
 split at h
 ·simp only [V.R] at hx
  subst hx
  split at h
  ·rename_i hs hd
   cases h
   exact ⟨_, w, μ, by simp [convert, run_underlying hs, run_underlying hd, Conv.intToInt]; rfl, by simp [V.R], Good.same hp pre⟩
  ·cases h
 ·rename_i l
  simp only [V.R] at hx
  subst hx
  split at h
  ·rename_i hs hd
   cases h
   exact ⟨_, w, μ, by simp [convert, run_underlying hs, run_underlying hd]; rfl, by simp [V.R], Good.same hp pre⟩
  ·rename_i e hs hd
   split at h
   ·rename_i i he hi
    split at h
    ·rename_i hc
     cases h
     have hr := run_bytes_of_string (P := P) w s d e ⟨l.toArray⟩ hs hd he
     have hsz : (⟨l.toArray⟩ : ByteArray).size = l.length := rfl
     rw [hsz] at hr
     have hge := grownCap_ge w l.length 0 e
     have hrow : (bytesRow ⟨l.toArray⟩ (grownCap w l.length 0 e)).size = grownCap w l.length 0 e := by
      simp only [bytesRow, hsz]; simp; omega
     obtain ⟨hg, hsh⟩ := Good.newC (P := P) (I := I) (μ := μ) (w := w) (hp := hp) (acc := []) (blk := ([.sld (l.map fun b => V.int .u8 b.toNat)], e)) (cs := bytesRow ⟨l.toArray⟩ (grownCap w l.length 0 e))
      (fr := ((bytesRow ⟨l.toArray⟩ (grownCap w l.length 0 e)).size, (bytesRow ⟨l.toArray⟩ (grownCap w l.length 0 e)).size + 1)) (wd := w.drew) (.inr rfl) (by simpa using pre) (.inr (Nat.le_refl _)) (.sld (by simp [hrow]; exact hge) (by
       have e1 : (bytesRow ⟨l.toArray⟩ (grownCap w l.length 0 e)).toList.take (l.map fun b => V.int .u8 b.toNat).length = bv l := by
        simp [bytesRow, bv]
       rw [e1]
       clear hr hrow pre hc hge hsz e1
       induction l with
       | nil => simp [V.RL, bv]
       | cons b l ih => simp only [List.map_cons, V.RL, bv]; exact ⟨_, _, rfl, by simp [V.R], ih⟩))
     refine ⟨_, _, _, hr, ?_, hg⟩
     simp only [V.R]
     exact .inl ⟨_, grownCap w l.length 0 e, e, _, i, Mu.put_at _ _ _ _, rfl, hge, grownCap_le_maxLen w _ _ _ hc.1, by simp, hsh, hi, by rw [hc.2]; show 0 + _ * 1 ≤ (bytesRow _ _).size; rw [hrow]; omega⟩
    ·cases h
   ·cases h
  ·cases h
 ·rename_i b off n full
  simp only [V.R] at hx
  split at h
  ·rename_i e hs hd
   split at h
   ·rename_i blk he hb
    split at h
    ·rename_i hl
     split at h
     ·rename_i l hbv
      cases h
      rcases hx with ⟨g, cap, e', N, i, hg, rfl, _, _, _, hsh, _⟩ | ⟨rfl, rfl, a', rfl, _⟩
      ·obtain ⟨cs, hrow, hsz, hrl⟩ := (pre.holds b (by simp) blk hb).rowS hg hsh
       have hr2 := hrl.part off n (bytes_noO hbv)
       have hbl := bytes_sound hbv hr2
       have hll : n = l.length := by have := hr2.length; rw [hbl, hl] at this; simpa [bv] using this.symm
       refine ⟨_, w, μ, run_string_of w s d e hs he hd _ n cap l hll (.inr ⟨_, rfl, hrow.lt, fun j u hu => ?_⟩), by simp [V.R], Good.same hp pre⟩
       rw [← hbl] at hu
       rw [Addr.add_mid]
       exact hrow.range off _ _ j u hu
      ·simp only [List.drop_zero, List.take_zero, bytesV, Option.some.injEq] at hbv
       subst hbv
       exact ⟨_, w, μ, run_string_of w s d e hs he hd a' 0 0 [] rfl (.inl rfl), by simp [V.R], Good.same hp pre⟩
     ·cases h
    ·cases h
   ·cases h
  ·cases h
 ·rename_i n full cs0
  simp only [V.R] at hx
  obtain ⟨a, cap, rfl, _, _, _, hmem⟩ := hx
  split at h
  ·rename_i e hs hd
   split at h
   ·rename_i he
    split at h
    ·rename_i hl
     split at h
     ·rename_i l hbv
      cases h
      have key : ∃ nv : List Value, V.RL P I μ w (cs0.take n) nv ∧ Lies w a nv := by
       rcases hmem with rfl | h0 | ⟨g, off, rfl, _, cells, e, fr, hg, hrl⟩
       ·exact ⟨[], by simp [V.RL], .inl rfl⟩
       ·exact ⟨[], by rw [h0]; simp [V.RL], .inl rfl⟩
       ·refine ⟨((cells.toList.drop off).take cs0.length).take n, RL_up (hrl.take _), .inr ⟨_, rfl, (Array.getElem?_eq_some_iff.1 hg).1, fun j v hv => ?_⟩⟩
        rw [Addr.add_mid]
        rw [List.getElem?_take] at hv
        split at hv
        ·rw [List.getElem?_take] at hv
         split at hv
         ·rw [List.getElem?_drop] at hv
          simpa [World.cell?, hg] using hv
         ·cases hv
        ·cases hv
      obtain ⟨nv, h1, h2⟩ := key
      have hbl := bytes_sound hbv h1
      have hll : n = l.length := by have := h1.length; rw [hbl, hl] at this; simpa [bv] using this.symm
      exact ⟨_, w, μ, run_string_of w s d e hs he hd _ n cap l hll (by rw [← hbl]; exact h2), by simp [V.R], Good.same hp pre⟩
     ·cases h
    ·cases h
   ·cases h
  ·cases h
 ·cases h
end
end Go.Proofs.YtfncaghjfgnnhaaGreatDoor

namespace Go.Proofs.YtfncaghjfgnnhaaGreatDoor
open Go.RowKit
set_option maxRecDepth 100000
section
variable {P : Program} {I : Nat → Prop} {μ μ' : Mu} {w w' : World} {hp : Hp} {out : Out}
def OptR (P : Program) (I : Nat → Prop) (μ : Mu) (w : World) : Option V → Option Value → Prop
 | none, v => v = none
 | some x, v => ∃ u, v = some u ∧ V.R P I μ w x u
theorem bound_sound {x : V} {vx : Value} {d lim lim' k : Nat} {code : BoundsCode} (h : evBound (some x) d lim = some k) (hx : V.R P I μ w x vx) (hl : lim ≤ lim') : (Instr.sliceBound vx lim' code).run P w = .ok k w ∧ k ≤ lim := by
 unfold evBound at h
 split at h
 ·rename_i e; cases e
 ·rename_i kk i e
  cases e
  split at h
  ·rename_i hc
   cases h
   simp only [V.R] at hx
   subst hx
   exact ⟨run_sliceBound w kk i lim' code hc.1 (by omega), by omega⟩
  ·cases h
 ·cases h
theorem run_slice_gen {t e : TypeId} {s : Nat} (hu : P.underlying t = some (.slice e)) (hs : szOf P e = some s) (a : Option Addr) (len cap : Nat) (lo hi mx : Option Value) (l h m : Nat)
  (hb : (Instr.sliceBounds true len cap lo hi mx).run P w = .ok (l, h, m) w) : (Instr.sliceAt t (.slice a len cap) lo hi mx).run P w = .ok (.slice (if m = l then a else a.map (·.add (l * s))) (h - l) (m - l)) w := by
 simp only [Instr.sliceAt, Sem.run_bind, run_underlying hu, Result.andThen_ok, Instr.slice, hb, run_sizeOf hs, Sem.run_pure]
theorem bounds_none {isS : Bool} {n cap k h : Nat} {lo hi : Option V} {vl vh : Option Value} (h1 : evBound hi n n = some h) (h2 : evBound lo 0 h = some k) (hlo : OptR P I μ w lo vl) (hhi : OptR P I μ w hi vh) (hn : n ≤ cap) :
  (Instr.sliceBounds isS n cap vl vh none).run P w = .ok (k, h, cap) w ∧ k ≤ h ∧ h ≤ n := by
 have hh : (hi = none ∧ vh = none ∧ h = n) ∨ ∃ u, vh = some u ∧ h ≤ n ∧ ∀ code, (Instr.sliceBound u cap code).run P w = .ok h w := by
  cases hi with
  | none => simp only [OptR] at hhi; subst hhi; cases h1; exact .inl ⟨rfl, rfl, rfl⟩
  | some x =>
   simp only [OptR] at hhi
   obtain ⟨u, rfl, hu⟩ := hhi
   exact .inr ⟨u, rfl, (bound_sound (code := .sliceAcap) h1 hu hn).2, fun code => (bound_sound (code := code) h1 hu hn).1⟩
 have hk : (lo = none ∧ vl = none ∧ k = 0) ∨ ∃ u, vl = some u ∧ k ≤ h ∧ ∀ code, (Instr.sliceBound u h code).run P w = .ok k w := by
  cases lo with
  | none => simp only [OptR] at hlo; subst hlo; cases h2; exact .inl ⟨rfl, rfl, rfl⟩
  | some x =>
   simp only [OptR] at hlo
   obtain ⟨u, rfl, hu⟩ := hlo
   exact .inr ⟨u, rfl, (bound_sound (code := .sliceB) h2 hu (Nat.le_refl _)).2, fun code => (bound_sound (code := code) h2 hu (Nat.le_refl _)).1⟩
 rcases hh with ⟨_, rfl, rfl⟩ | ⟨u, rfl, hle, hc⟩ <;> rcases hk with ⟨_, rfl, rfl⟩ | ⟨v, rfl, hle', hd⟩
 ·exact ⟨rfl, by omega, by omega⟩
 ·exact ⟨by simp [Instr.sliceBounds, hd], by omega, by omega⟩
 ·exact ⟨by simp [Instr.sliceBounds, hc], by omega, by omega⟩
 ·exact ⟨by simp [Instr.sliceBounds, hc, hd], by omega, by omega⟩
theorem bounds_max {n cap k h m : Nat} {lo : Option V} {hi mx : V} {vl : Option Value} {vh vm : Value} (h0 : evBound (some mx) 0 n = some m) (h1 : evBound (some hi) 0 m = some h) (h2 : evBound lo 0 h = some k) (hlo : OptR P I μ w lo vl) (hhi : V.R P I μ w hi vh) (hmx : V.R P I μ w mx vm) (hn : n ≤ cap) :
  (Instr.sliceBounds true n cap vl (some vh) (some vm)).run P w = .ok (k, h, m) w ∧ k ≤ h ∧ h ≤ m ∧ m ≤ n := by
 obtain ⟨a1, a2⟩ := bound_sound (code := .slice3Acap) h0 hmx hn
 obtain ⟨b1, b2⟩ := bound_sound (code := .slice3B) h1 hhi (Nat.le_refl _)
 have hk : (lo = none ∧ vl = none ∧ k = 0) ∨ ∃ u, vl = some u ∧ k ≤ h ∧ ∀ code, (Instr.sliceBound u h code).run P w = .ok k w := by
  cases lo with
  | none => simp only [OptR] at hlo; subst hlo; cases h2; exact .inl ⟨rfl, rfl, rfl⟩
  | some x =>
   simp only [OptR] at hlo
   obtain ⟨u, rfl, hu⟩ := hlo
   exact .inr ⟨u, rfl, (bound_sound (code := .sliceB) h2 hu (Nat.le_refl _)).2, fun code => (bound_sound (code := code) h2 hu (Nat.le_refl _)).1⟩
 rcases hk with ⟨_, rfl, rfl⟩ | ⟨v, rfl, hle', hd⟩
 ·exact ⟨by simp [Instr.sliceBounds, a1, b1], by omega, by omega, by omega⟩
 ·exact ⟨by simp [Instr.sliceBounds, a1, b1, hd], by omega, by omega, by omega⟩
theorem memTake {g off n : Nat} {cs : List V} (h : cs = [] ∨ I g ∧ ∃ cells e fr, w.heap[g]? = some (.cells cells e fr) ∧ V.RL P I noMu w cs ((cells.toList.drop off).take cs.length)) :
  cs.take n = [] ∨ I g ∧ ∃ cells e fr, w.heap[g]? = some (.cells cells e fr) ∧ V.RL P I noMu w (cs.take n) ((cells.toList.drop off).take (cs.take n).length) := by
 rcases h with rfl | ⟨hi, cells, e, fr, hg, hr⟩
 ·exact .inl (by simp)
 ·refine .inr ⟨hi, cells, e, fr, hg, ?_⟩
  have := hr.take n
  rw [List.take_take] at this
  rw [List.length_take]
  exact this
theorem memDrop {g off n : Nat} {cs : List V} (h : cs = [] ∨ I g ∧ ∃ cells e fr, w.heap[g]? = some (.cells cells e fr) ∧ V.RL P I noMu w cs ((cells.toList.drop off).take cs.length)) :
  cs.drop n = [] ∨ I g ∧ ∃ cells e fr, w.heap[g]? = some (.cells cells e fr) ∧ V.RL P I noMu w (cs.drop n) ((cells.toList.drop (off + n)).take (cs.drop n).length) := by
 rcases h with rfl | ⟨hi, cells, e, fr, hg, hr⟩
 ·exact .inl (by simp)
 ·refine .inr ⟨hi, cells, e, fr, hg, ?_⟩
  have := hr.drop n
  rw [List.drop_take, List.drop_drop] at this
  rw [List.length_drop]
  exact this
theorem dslMem {a : Option Addr} {cs : List V} {k h m s : Nat} (hkh : k ≤ h) (hhm : h ≤ m)
  {n : Nat} (hn : h ≤ n) (hmem : cs = [] ∨ n = 0 ∨ ∃ g off, a = some ⟨g, off, none⟩ ∧ I g ∧ ∃ cells e fr, w.heap[g]? = some (.cells cells e fr) ∧ V.RL P I noMu w cs ((cells.toList.drop off).take cs.length)) :
  (cs.take (h * s)).drop (k * s) = [] ∨ h - k = 0 ∨ ∃ g off, (if m = k then a else a.map (·.add (k * s))) = some ⟨g, off, none⟩ ∧ I g ∧ ∃ cells e fr, w.heap[g]? = some (.cells cells e fr) ∧ V.RL P I noMu w ((cs.take (h * s)).drop (k * s)) ((cells.toList.drop off).take ((cs.take (h * s)).drop (k * s)).length) := by
 rcases hmem with rfl | rfl | ⟨g, off, rfl, hmem⟩
 ·exact .inl (by simp)
 ·exact .inl (by obtain rfl : h = 0 := by omega
                 simp)
 ·by_cases hmk : m = k
  ·obtain rfl : h = k := by omega
   exact .inl (List.drop_eq_nil_of_le (by simp; omega))
  ·rw [if_neg hmk]
   rcases memDrop (n := k * s) (memTake (n := h * s) (.inr hmem)) with h0 | h0
   ·exact .inl h0
   ·exact .inr <| .inr ⟨g, off + k * s, by simp [Addr.add_mid], h0⟩
theorem dslAdr2 {a : Option Addr} {cap m k s : Nat} (hm : m ≤ cap) (h : a = none ∧ cap = 0 ∨ ∃ g off, a = some ⟨g, off, none⟩) :
  (if m = k then a else a.map (·.add (k * s))) = none ∧ m - k = 0 ∨ ∃ g off, (if m = k then a else a.map (·.add (k * s))) = some ⟨g, off, none⟩ := by
 rcases h with ⟨rfl, h0⟩ | ⟨g, off, rfl⟩
 ·exact .inl ⟨by split <;> rfl, by omega⟩
 ·right
  split
  ·exact ⟨g, off, rfl⟩
  ·exact ⟨g, off + k * s, by simp [Addr.add_mid]⟩
theorem dslAdr {a : Option Addr} {cap k s : Nat} (_ : k ≤ cap) (h : a = none ∧ cap = 0 ∨ ∃ g off, a = some ⟨g, off, none⟩) :
  (if cap = k then a else a.map (·.add (k * s))) = none ∧ cap - k = 0 ∨ ∃ g off, (if cap = k then a else a.map (·.add (k * s))) = some ⟨g, off, none⟩ := dslAdr2 (Nat.le_refl _) h
theorem slice_sound {t : TypeId} {x : V} {vx : Value} {lo hi mx : Option V} {vl vh vm : Option Value} (h : evSlice P hp t x lo hi mx = some out) (hx : V.R P I μ w x vx) (hlo : OptR P I μ w lo vl) (hhi : OptR P I μ w hi vh) (hmx : OptR P I μ w mx vm)
  (pre : Pre P I μ w hp out.acc out.hp.length) :
  out.hp = hp ∧ out.wr = [] ∧ (∀ b ∈ out.acc, b < hp.length) ∧ ∃ val, (Instr.sliceAt t vx vl vh vm).run P w = .ok val w ∧ V.R P I μ w out.v val := by
 unfold evSlice at h
 split at h
 ·rename_i l
  simp only [V.R] at hx; simp only [OptR] at hmx
  subst hx hmx
  split at h
  case h_2 => cases h
  case h_1 hh hu hhb =>
  split at h
  case h_2 => cases h
  case h_1 k hkb =>
  cases h
  obtain ⟨hb, h1, h2⟩ := bounds_none (isS := false) (P := P) (w := w) (cap := l.length) hhb hkb hlo hhi (Nat.le_refl _)
  refine ⟨rfl, rfl, by simp, .string ((⟨l.toArray⟩ : ByteArray).extract k hh), ?_, ?_⟩
  ·have hsz : (⟨l.toArray⟩ : ByteArray).size = l.length := rfl
   simp only [Instr.sliceAt, Sem.run_bind, run_underlying hu, Result.andThen_ok, Instr.slice, hsz, hb, Sem.run_pure, Option.isSome_none, Bool.false_eq_true, if_false]
  ·simp only [V.R]
   congr 1
   apply ByteArray.ext
   simp [ByteArray.data_extract, List.extract_eq_take_drop, List.drop_take]
 ·rename_i b off n full
  simp only [V.R] at hx; simp only [OptR] at hmx
  subst hmx
  split at h
  case h_2 => cases h
  case h_1 e hh blk hu hhb hblk =>
  have hbl : b < hp.length := (List.getElem?_eq_some_iff.1 hblk).1
  split at h
  case h_2 => cases h
  case h_1 k s hkb hs hel =>
  have hacc : b ∈ out.acc := by
   split at h
   ·cases h; simp
   ·split at h <;> (cases h; simp)
  rcases hx with ⟨g, cap, e', N, i, hg, rfl, hncap, hcm, hfull, hsh, hi', hN⟩ | ⟨rfl, rfl, a', rfl, ha'⟩
  case inr =>
   obtain ⟨hb, h1, h2⟩ := bounds_none (isS := true) (P := P) (w := w) (cap := 0) hhb hkb hlo hhi (Nat.le_refl _)
   obtain rfl : hh = 0 := by omega
   obtain rfl : k = 0 := by omega
   have hr := run_slice_gen (P := P) (w := w) hu hs a' 0 0 vl vh none 0 0 0 hb
   split at h
   ·cases h
    refine ⟨rfl, rfl, by simpa using hbl, _, hr, ?_⟩
    simp only [V.R]
    exact .inr ⟨trivial, trivial, a', by simp, ha'⟩
   ·split at h
    ·omega
    ·cases h
     refine ⟨rfl, rfl, by simpa using hbl, _, hr, ?_⟩
     simp only [V.R]
     exact ⟨a', 0, by simp, Nat.le_refl _, fun _ => rfl, ha'.imp (fun h => ⟨h, rfl⟩) id, .inl trivial⟩
  obtain ⟨cs, fr, _, hw, _⟩ := (pre.holds b hacc blk hblk).realS hg hsh
  have hshape := shape_of hw
  rw [hsh] at hshape
  cases hshape
  rw [eq_of_beq hel] at hi'
  have hsz : i.size = s := by unfold szOf at hs; rw [hi'] at hs; simpa using hs
  subst hsz
  obtain ⟨hb, h1, h2⟩ := bounds_none (isS := true) (P := P) (w := w) hhb hkb hlo hhi hncap
  have hr := run_slice_gen (P := P) (w := w) hu hs (some ⟨g, off, none⟩) n cap vl vh none k hh cap hb
  have hfull' : (full && hh == n) = true → cap = hh := by
   intro hf; simp at hf; have := hfull hf.1; omega
  split at h
  ·cases h
   have hk0 : k = 0 := by simp only [evBound, Option.some.injEq] at hkb; exact hkb.symm
   subst hk0
   refine ⟨rfl, rfl, by simpa using hbl, _, hr, ?_⟩
   simp only [V.R]
   refine .inl ⟨g, cap, _, _, i, hg, ?_, by omega, hcm, hfull', hsh, by rw [eq_of_beq hel]; exact hi', hN⟩
   split <;> simp [Addr.add]
  ·split at h
   ·rename_i hkh
    cases h
    refine ⟨rfl, rfl, by simpa using hbl, _, hr, ?_⟩
    rw [if_neg (show ¬ cap = k by omega)]
    simp only [V.R]
    have hmul : k * i.size + (cap - k) * i.size = cap * i.size := by rw [← Nat.add_mul]; congr 1; omega
    exact .inl ⟨g, cap - k, _, _, i, hg, by simp [Addr.add_mid], by omega, by omega, fun hf => by have := hfull' hf; omega, hsh, by rw [eq_of_beq hel]; exact hi', by omega⟩
   ·rename_i hkh
    cases h
    obtain rfl : k = hh := by omega
    refine ⟨rfl, rfl, by simpa using hbl, _, hr, ?_⟩
    simp only [V.R]
    refine ⟨some (if cap = k then ⟨g, off, none⟩ else (⟨g, off, none⟩ : Addr).add (k * i.size)), cap - k, ?_, by omega, fun hf => by have := hfull' hf; omega, .inr (by split; exact ⟨g, off, rfl⟩; exact ⟨g, off + k * i.size, by simp [Addr.add_mid]⟩), .inl trivial⟩
    split <;> simp
 ·rename_i b off n full m
  simp only [V.R] at hx; simp only [OptR] at hmx
  obtain ⟨vm', rfl, hmx⟩ := hmx
  split at h
  case h_2 => cases h
  case h_1 e m hi0 blk hu hmb hblk =>
  have hbl : b < hp.length := (List.getElem?_eq_some_iff.1 hblk).1
  simp only [OptR] at hhi
  obtain ⟨vh', rfl, hhi⟩ := hhi
  split at h
  case h_2 => cases h
  case h_1 hh hhb =>
  split at h
  case h_2 => cases h
  case h_1 k s hkb hs hel =>
  have hacc : b ∈ out.acc := by
   split at h <;> (cases h; simp)
  rcases hx with ⟨g, cap, e', N, i, hg, rfl, hncap, hcm, hfull, hsh, hi', hN⟩ | ⟨rfl, rfl, a', rfl, ha'⟩
  case inr =>
   obtain ⟨hb, h1, h2, h3⟩ := bounds_max (P := P) (w := w) (cap := 0) hmb hhb hkb hlo hhi hmx (Nat.le_refl _)
   obtain rfl : m = 0 := by omega
   obtain rfl : hh = 0 := by omega
   obtain rfl : k = 0 := by omega
   have hr := run_slice_gen (P := P) (w := w) hu hs a' 0 0 vl (some vh') (some vm') 0 0 0 hb
   rw [if_pos rfl] at h
   cases h
   refine ⟨rfl, rfl, by simpa using hbl, _, hr, ?_⟩
   simp only [V.R]
   exact ⟨a', 0, by simp, Nat.le_refl _, fun _ => rfl, ha'.imp (fun h => ⟨h, rfl⟩) id, .inl trivial⟩
  obtain ⟨cs, fr, _, hw, _⟩ := (pre.holds b hacc blk hblk).realS hg hsh
  have hshape := shape_of hw
  rw [hsh] at hshape
  cases hshape
  rw [eq_of_beq hel] at hi'
  have hsz : i.size = s := by unfold szOf at hs; rw [hi'] at hs; simpa using hs
  subst hsz
  obtain ⟨hb, h1, h2, h3⟩ := bounds_max (P := P) (w := w) hmb hhb hkb hlo hhi hmx hncap
  have hr := run_slice_gen (P := P) (w := w) hu hs (some ⟨g, off, none⟩) n cap vl (some vh') (some vm') k hh m hb
  split at h
  ·rename_i ek
   cases h
   subst ek
   refine ⟨rfl, rfl, by simpa using hbl, _, hr, ?_⟩
   simp only [V.R]
   refine ⟨some (if m = k then ⟨g, off, none⟩ else (⟨g, off, none⟩ : Addr).add (k * i.size)), m - k, ?_, by omega, fun hf => by have := eq_of_beq hf; omega, .inr (by split; exact ⟨g, off, rfl⟩; exact ⟨g, off + k * i.size, by simp [Addr.add_mid]⟩), .inl trivial⟩
   split <;> simp
  ·rename_i ek
   cases h
   refine ⟨rfl, rfl, by simpa using hbl, _, hr, ?_⟩
   rw [if_neg (show ¬ m = k by omega)]
   simp only [V.R]
   have hmul : k * i.size + (m - k) * i.size = m * i.size := by rw [← Nat.add_mul]; congr 1; omega
   have hmul2 : m * i.size ≤ cap * i.size := Nat.mul_le_mul_right _ (by omega)
   exact .inl ⟨g, m - k, _, _, i, hg, by simp [Addr.add_mid], by omega, by omega, fun hf => by have := eq_of_beq hf; omega, hsh, by rw [eq_of_beq hel]; exact hi', by omega⟩
 ·rename_i n full cs0
  simp only [V.R] at hx; simp only [OptR] at hmx
  obtain ⟨a, cap, rfl, hncap, hfull, hnone, hmem⟩ := hx
  subst hmx
  split at h
  case h_2 => cases h
  case h_1 e hh hu hhb =>
  split at h
  case h_2 => cases h
  case h_1 k s hkb hs =>
  obtain ⟨hb, h1, h2⟩ := bounds_none (isS := true) (P := P) (w := w) hhb hkb hlo hhi hncap
  have hr := run_slice_gen (P := P) (w := w) hu hs a n cap vl vh none k hh cap hb
  have hfull' : (full && hh == n) = true → cap = hh := by
   intro hf; simp at hf; have := hfull hf.1; omega
  cases h
  refine ⟨rfl, rfl, by simp, _, hr, ?_⟩
  simp only [V.R]
  refine ⟨_, cap - k, rfl, by omega, fun hf => by have := hfull' hf; omega, dslAdr (by omega) hnone, dslMem h1 (by omega) (by omega) hmem⟩
 ·rename_i n full cs0 m
  simp only [V.R] at hx; simp only [OptR] at hmx
  obtain ⟨a, cap, rfl, hncap, hfull, hnone, hmem⟩ := hx
  obtain ⟨vm', rfl, hmx⟩ := hmx
  split at h
  case h_2 => cases h
  case h_1 e m hi0 hu hmb =>
  simp only [OptR] at hhi
  obtain ⟨vh', rfl, hhi⟩ := hhi
  split at h
  case h_2 => cases h
  case h_1 hh hhb =>
  split at h
  case h_2 => cases h
  case h_1 k s hkb hs =>
  obtain ⟨hb, h1, h2, h3⟩ := bounds_max (P := P) (w := w) hmb hhb hkb hlo hhi hmx hncap
  have hr := run_slice_gen (P := P) (w := w) hu hs a n cap vl (some vh') (some vm') k hh m hb
  cases h
  refine ⟨rfl, rfl, by simp, _, hr, ?_⟩
  simp only [V.R]
  refine ⟨_, m - k, rfl, by omega, fun hf => by have := eq_of_beq hf; omega, dslAdr2 (by omega) hnone, dslMem h1 h2 (by omega) hmem⟩
 ·cases h
end
end Go.Proofs.YtfncaghjfgnnhaaGreatDoor

namespace Go.Proofs.YtfncaghjfgnnhaaGreatDoor
open Go.RowKit
set_option maxRecDepth 100000
section
variable {P : Program} {I : Nat → Prop} {μ μ' : Mu} {w w' : World} {hp : Hp} {out : Out}
theorem at_lt {b : Nat} {x : Option Blk} (h : hp[b]? = some x) : b < hp.length := (List.getElem?_eq_some_iff.1 h).1
theorem cons_lt {b : Nat} {bs : List Nat} (h : b < hp.length) (hs : ∀ c ∈ bs, c < hp.length) : ∀ c ∈ b :: bs, c < hp.length := by
 intro c hc
 rcases List.mem_cons.1 hc with rfl | hc
 ·exact h
 ·exact hs c hc
theorem load_tidy {t : TypeId} {x : V} (h : evLoad P hp t x = some out) : Tidy hp out.hp out.acc out.wr := by
 unfold evLoad at h
 split at h
 case h_3 => cases h
 case h_2 =>
  split at h
  case h_2 => cases h
  split at h
  ·split at h
   ·cases h; exact .same hp (by simp)
   ·cases h
  ·split at h
   ·cases h; exact .same hp (by simp)
   ·cases h
 split at h
 case h_2 => cases h
 rename_i hb _ _
 split at h
 ·split at h
  ·cases h; exact .same hp (by simpa using at_lt hb)
  ·cases h
 ·split at h
  ·split at h
   ·cases h; exact .same hp (by simpa using at_lt hb)
   ·cases h
  ·cases h
theorem store_tidy {t : TypeId} {x y : V} (h : evStore P hp t x y = some out) : Tidy hp out.hp out.acc out.wr := by
 unfold evStore at h
 split at h
 case h_2 => cases h
 split at h
 case h_2 => cases h
 rename_i hb _
 split at h
 ·split at h
  ·cases h
   exact ⟨by simp, fun c hc hn => by rw [List.getElem?_set_ne (fun e => hn (by simp [e]))], by simp, by simpa using at_lt hb, by intro c hc; obtain rfl := List.mem_singleton.1 hc; exact ⟨_, hb⟩⟩
  ·cases h
 ·cases h
theorem src_tidy {size : Nat} {x : V} {bs : List Nat} {m : Nat} {news : List V} (h : srcV hp size x = some (bs, m, news)) : ∀ b ∈ bs, b < hp.length := by
 unfold srcV at h
 split at h
 ·split at h
  ·rename_i hb
   split at h
   ·cases h; simpa using at_lt hb
   ·cases h
  ·cases h
 ·split at h
  ·cases h; simp
  ·cases h
 ·cases h
theorem append_tidy {t t' : TypeId} {x y : V} (h : evAppend P hp t t' x y = some out) : Tidy hp out.hp out.acc out.wr := by
 unfold evAppend at h
 split at h
 case h_2 => cases h
 split at h
 case h_2 => cases h
 split at h
 case h_2 => cases h
 split at h
 case isFalse => cases h
 split at h
 case h_2 => cases h
 rename_i hsrc
 have hs := src_tidy hsrc
 split at h
 ·split at h
  case h_2 => cases h
  rename_i hb
  have hbl := at_lt hb
  split at h
  case isFalse => cases h
  cases h
  refine ⟨by simp, fun c hc hn => ?_, by simp, cons_lt hbl hs, by intro c hc; obtain rfl := List.mem_singleton.1 hc; exact ⟨_, hb⟩⟩
  rw [List.getElem?_append_left (by simpa using hc), List.getElem?_set_ne (fun e => hn (by simp [e]))]
 ·split at h
  ·cases h; exact .same hp hs
  ·split at h
   ·cases h; exact .new hp _ hs
   ·cases h
 ·cases h
theorem conv_tidy {s d : TypeId} {x : V} (h : evConv P hp s d x = some out) : Tidy hp out.hp out.acc out.wr := by
 unfold evConv at h
 split at h
 ·split at h
  ·cases h; exact .same hp (by simp)
  ·cases h
 ·split at h
  ·cases h; exact .same hp (by simp)
  ·split at h
   ·split at h
    ·cases h; exact .new hp _ (by simp)
    ·cases h
   ·cases h
  ·cases h
 ·split at h
  ·split at h
   ·rename_i hb
    split at h
    ·split at h
     ·cases h; exact .same hp (by simpa using at_lt hb)
     ·cases h
    ·cases h
   ·cases h
  ·cases h
 ·split at h
  ·split at h
   ·split at h
    ·split at h
     ·cases h; exact .same hp (by simp)
     ·cases h
    ·cases h
   ·cases h
  ·cases h
 ·cases h
theorem slice_tidy {t : TypeId} {x : V} {lo hi mx : Option V} (h : evSlice P hp t x lo hi mx = some out) : Tidy hp out.hp out.acc out.wr := by
 unfold evSlice at h
 split at h
 ·split at h
  ·split at h
   ·cases h; exact .same hp (by simp)
   ·cases h
  ·cases h
 ·split at h
  ·rename_i hb
   split at h
   ·split at h
    ·cases h; exact .same hp (by simpa using at_lt hb)
    ·split at h <;> (cases h; exact .same hp (by simpa using at_lt hb))
   ·cases h
  ·cases h
 ·split at h
  ·rename_i hb
   split at h
   ·split at h
    ·split at h <;> (cases h; exact .same hp (by simpa using at_lt hb))
    ·cases h
   ·cases h
  ·cases h
 ·split at h
  ·split at h
   ·cases h; exact .same hp (by simp)
   ·cases h
  ·cases h
 ·split at h
  ·split at h
   ·split at h
    ·cases h; exact .same hp (by simp)
    ·cases h
   ·cases h
  ·cases h
 ·cases h
theorem plain_tidy {e : Operand → V} {op : Op} (h : evPlain P e hp op = some out) : Tidy hp out.hp out.acc out.wr := by
 unfold evPlain at h
 split at h
 ·cases h; exact .same hp (by simp)
 ·cases h; exact .same hp (by simp)
 ·split at h
  ·cases h; exact .same hp (by simp)
  ·cases h
 ·unfold evAlloc at h
  split at h
  ·cases h; exact .new hp _ (by simp)
  ·cases h
 ·unfold evBox at h
  split at h
  ·cases h; exact .new hp _ (by simp)
  ·cases h
 ·unfold evBuild at h
  split at h
  ·split at h
   ·split at h
    ·cases h; exact .same hp (by simp)
    ·cases h
   ·cases h
  ·cases h
 ·unfold evBuildSlice at h
  split at h
  ·split at h
   ·split at h
    ·split at h
     ·split at h
      ·cases h; exact .new hp _ (by simp)
      ·cases h
     ·cases h
    ·cases h
   ·cases h
  ·cases h
 ·exact load_tidy h
 ·exact store_tidy h
 ·split at h
  ·cases h; exact .same hp (by simp)
  ·cases h; exact .same hp (by simp)
  ·cases h; exact .same hp (by simp)
  ·cases h
 ·obtain ⟨v, _, rfl⟩ := Option.map_eq_some_iff.1 h; exact .same hp (by simp)
 ·obtain ⟨v, _, rfl⟩ := Option.map_eq_some_iff.1 h; exact .same hp (by simp)
 ·exact conv_tidy h
 ·split at h
  ·cases h; exact .same hp (by simp)
  ·cases h
 ·unfold evMakeSlice at h
  split at h
  ·split at h
   ·split at h
    ·split at h
     ·split at h
      ·cases h; exact .new hp _ (by simp)
      ·cases h
     ·cases h
    ·cases h
   ·cases h
  ·cases h
 ·exact slice_tidy h
 ·split at h
  ·split at h
   ·cases h; exact .same hp (by simp)
   ·cases h
  ·split at h
   ·cases h; exact .same hp (by simp)
   ·cases h
  ·split at h
   ·cases h; exact .same hp (by simp)
   ·cases h
  ·cases h
 ·split at h
  ·obtain ⟨v, _, rfl⟩ := Option.map_eq_some_iff.1 h; exact .same hp (by simp)
  ·cases h
 ·split at h
  ·split at h
   ·split at h
    ·cases h; exact .same hp (by simp)
    ·cases h
   ·cases h
  ·split at h
   ·split at h
    ·cases h; exact .same hp (by simp)
    ·cases h
   ·cases h
  ·cases h
 ·obtain ⟨v, _, rfl⟩ := Option.map_eq_some_iff.1 h; exact .same hp (by simp)
 ·split at h
  ·obtain ⟨v, _, rfl⟩ := Option.map_eq_some_iff.1 h; exact .same hp (by simp)
  ·cases h
 ·split at h
  ·exact append_tidy h
  ·unfold evLen at h
   split at h
   case h_4 => cases h
   all_goals
    split at h
    ·cases h; exact .same hp (by simp)
    ·cases h
  ·obtain ⟨v, _, rfl⟩ := Option.map_eq_some_iff.1 h; exact .same hp (by simp)
  ·obtain ⟨v, _, rfl⟩ := Option.map_eq_some_iff.1 h; exact .same hp (by simp)
  ·cases h
 ·cases h
def DoesP (P : Program) (I : Nat → Prop) (μ : Mu) (w : World) (hp : Hp) (out : Out) (s : Sem Value) : Prop :=
 ∃ val w' μ', s.run P w = .ok val w' ∧ V.R P I μ' w' out.v val ∧ Good P I I μ μ' w w' hp out.hp out.acc out.wr
theorem DoesP.same {s : Sem Value} (h1 : out.hp = hp) (h2 : out.wr = []) (pre : Pre P I μ w hp out.acc out.hp.length) (h : ∃ val, s.run P w = .ok val w ∧ V.R P I μ w out.v val) : DoesP P I μ w hp out s := by
 obtain ⟨val, h3, h4⟩ := h
 refine ⟨val, w, μ, h3, h4, ?_⟩
 rw [h1, h2]
 rw [h1] at pre
 exact Good.same hp pre
theorem RL_map {e : Operand → V} {ρ : Operand → Value} : ∀ {l : List Operand}, (∀ x ∈ l, V.R P I μ w (e x) (ρ x)) → V.RL P I μ w (l.map e) (l.map ρ)
 | [], _ => by simp [V.RL]
 | x :: l, h => by simp only [List.map_cons, V.RL]; exact ⟨_, _, rfl, h x (by simp), RL_map fun y hy => h y (by simp [hy])⟩
theorem Parts_map {e : Operand → V} {ρ : Operand → Value} : ∀ {l : List (Nat × Operand)}, (∀ x ∈ l, V.R P I μ w (e x.2) (ρ x.2)) → Parts P I μ w (l.map fun p => (p.1, e p.2)) (l.map fun p => (p.1, ρ p.2))
 | [], _ => .nil
 | x :: l, h => .cons (h x (by simp)) (Parts_map fun y hy => h y (by simp [hy]))
theorem OptR_map {e : Operand → V} {ρ : Operand → Value} {o : Option Operand} (h : ∀ x, o = some x → V.R P I μ w (e x) (ρ x)) : OptR P I μ w (o.map e) (o.map ρ) := by
 cases o with
 | none => rfl
 | some x => exact ⟨_, rfl, h x rfl⟩
theorem part_sound {t : TypeId} {cs : List V} {off : Nat} {v : V} {vs : Array Value} (h : partV P t cs off = some v) (hr : V.RL P I μ w cs vs.toList) : ∃ val, (part t vs off).run P w = .ok val w ∧ V.R P I μ w v val := by
 unfold partV at h
 split at h
 case h_2 => cases h
 case h_1 d s hu hs =>
 split at h
 ·rename_i hd
  cases h
  refine ⟨.agg (vs.extract off (off + s)), ?_, ?_⟩
  ·simp only [part, Sem.run_bind, run_isAgg hu, Result.andThen_ok, hd, if_true, run_sizeOf hs, Sem.run_pure]
  ·simp only [V.R]
   refine ⟨_, rfl, ?_⟩
   have := (hr.drop off).take s
   simpa [List.extract_eq_take_drop, List.take_drop] using this
 ·rename_i hd
  obtain ⟨u, hu2, hru⟩ := hr.get h
  refine ⟨u, ?_, hru⟩
  rw [Array.getElem?_toList] at hu2
  simp only [part, Sem.run_bind, run_isAgg hu, Result.andThen_ok, hd, Bool.false_eq_true, if_false, hu2, Sem.run_pure]
theorem plain_sound {o : Oper} {e : Operand → V} {ρ : Operand → Value} (h : evPlain P e hp o.op = some out) (hops : ∀ x ∈ o.op.operands, V.R P I μ w (e x) (ρ x)) (pre : Pre P I μ w hp out.acc out.hp.length) :
  ∃ nx val w' μ', (execOp ρ o).run P w = .ok nx w' ∧ (nx = .value val ∨ nx = .skip ∧ val = undef) ∧ V.R P I μ' w' out.v val ∧ Good P I I μ μ' w w' hp out.hp out.acc out.wr := by
 have fin : ∀ s : Sem Value, execOp ρ o = (do pure (.value (← s)) : Sem Next) → DoesP P I μ w hp out s → ∃ nx val w' μ', (execOp ρ o).run P w = .ok nx w' ∧ (nx = .value val ∨ nx = .skip ∧ val = undef) ∧ V.R P I μ' w' out.v val ∧ Good P I I μ μ' w w' hp out.hp out.acc out.wr := by
  intro s hs ⟨val, w', μ', h1, h2, h3⟩
  exact ⟨.value val, val, w', μ', by rw [hs]; simp only [Sem.run_bind, h1, Result.andThen_ok, Sem.run_pure], .inl rfl, h2, h3⟩
 have fin2 : ∀ s : Sem Value, (execOp ρ o).run P w = (do pure (.value (← s)) : Sem Next).run P w → DoesP P I μ w hp out s → ∃ nx val w' μ', (execOp ρ o).run P w = .ok nx w' ∧ (nx = .value val ∨ nx = .skip ∧ val = undef) ∧ V.R P I μ' w' out.v val ∧ Good P I I μ μ' w w' hp out.hp out.acc out.wr := by
  intro s hs ⟨val, w', μ', h1, h2, h3⟩
  exact ⟨.value val, val, w', μ', by rw [hs]; simp only [Sem.run_bind, h1, Result.andThen_ok, Sem.run_pure], .inl rfl, h2, h3⟩
 unfold evPlain at h
 split at h <;> first | (rename_i hop; rw [hop] at hops) | skip
 ·cases h
  exact ⟨.value (ρ _), ρ _, w, μ, by simp only [execOp, hop, Sem.run_pure], .inl rfl, hops _ (by simp [Op.operands]), Good.same hp pre⟩
 ·cases h
  exact ⟨.value (ρ _), ρ _, w, μ, by simp only [execOp, hop, Sem.run_pure], .inl rfl, hops _ (by simp [Op.operands]), Good.same hp pre⟩
 ·rename_i c a b
  split at h
  ·rename_i t ht
   cases h
   have hc := hops c (by simp [Op.operands])
   rw [ht] at hc
   simp only [V.R] at hc
   refine ⟨.value (if t then ρ a else ρ b), _, w, μ, by simp only [execOp, hop, hc, asBool, Sem.run_bind, Sem.run_pure, Result.andThen_ok], .inl rfl, ?_, Good.same hp pre⟩
   cases t
   ·exact hops b (by simp [Op.operands])
   ·exact hops a (by simp [Op.operands])
  ·cases h
 ·exact fin _ (by simp only [execOp, hop]) (alloc_sound h pre)
 ·exact fin _ (by simp only [execOp, hop]) (box_sound h (hops _ (by simp [Op.operands])) pre)
 ·rename_i t ps
  obtain ⟨h1, h2, h3, h4⟩ := build_sound (vs := ps.map fun (i, x) => (i, ρ x)) h (by
   rw [Array.toList_map]
   exact Parts_map fun x hx => hops _ (by simp only [Op.operands, List.mem_toArray, List.mem_map]; exact ⟨x, hx, rfl⟩))
  exact fin _ (by simp only [execOp, hop]) (.same h1 h2 pre h4)
 ·rename_i t n ps
  exact fin _ (by simp only [execOp, hop]) (buildSlice_sound (vs := ps.map fun (i, x) => (i, ρ x)) h (by
   rw [Array.toList_map]
   exact Parts_map fun x hx => hops _ (by simp only [Op.operands, List.mem_toArray, List.mem_map]; exact ⟨x, hx, rfl⟩)) pre)
 ·obtain ⟨h1, h2, _, h4⟩ := load_sound h (hops _ (by simp [Op.operands])) pre
  exact fin _ (by simp only [execOp, hop]) (.same h1 h2 pre h4)
 ·obtain ⟨w', μ', h1, h2, h3⟩ := store_sound h (hops _ (by simp [Op.operands])) (hops _ (by simp [Op.operands])) pre
  exact ⟨.skip, undef, w', μ', by simp only [execOp, hop, Sem.run_bind, h1, Result.andThen_ok, Sem.run_pure], .inr ⟨rfl, rfl⟩, by rw [h2]; simp [V.R], h3⟩
 ·rename_i x
  split at h
  ·rename_i b off hx
   cases h
   have hc := hops x (by simp [Op.operands])
   rw [hx] at hc
   have hc' := hc
   simp only [V.R] at hc'
   obtain ⟨g, _, hv⟩ := hc'
   refine ⟨.value (ρ x), _, w, μ, by simp only [execOp, hop]; rw [hv]; rfl, .inl rfl, hc, Good.same hp pre⟩
  ·rename_i cs hx
   cases h
   have hc := hops x (by simp [Op.operands])
   rw [hx] at hc
   have hc' := hc
   simp only [V.R] at hc'
   obtain ⟨g, off, hv, _⟩ := hc'
   refine ⟨.value (ρ x), _, w, μ, by simp only [execOp, hop]; rw [hv]; rfl, .inl rfl, hc, Good.same hp pre⟩
  ·rename_i b base rel hx
   cases h
   have hc := hops x (by simp [Op.operands])
   rw [hx] at hc
   have hc' := hc
   simp only [V.R] at hc'
   obtain ⟨g, _, hv⟩ := hc'
   refine ⟨.value (ρ x), _, w, μ, by simp only [execOp, hop]; rw [hv]; rfl, .inl rfl, hc, Good.same hp pre⟩
  ·cases h
 ·rename_i op t x y yt
  obtain ⟨v, hv, rfl⟩ := Option.map_eq_some_iff.1 h
  exact fin (do eqGuard op t x y (ρ x) (ρ y); binOp op t (ρ x) (ρ y)) (by simp only [execOp, hop]) (.same rfl rfl pre (bin_sound hv (hops _ (by simp [Op.operands])) (hops _ (by simp [Op.operands]))))
 ·obtain ⟨v, hv, rfl⟩ := Option.map_eq_some_iff.1 h
  exact fin _ (by simp only [execOp, hop]) (.same rfl rfl pre (un_sound hv (hops _ (by simp [Op.operands]))))
 ·exact fin _ (by simp only [execOp, hop]) (conv_sound h (hops _ (by simp [Op.operands])) pre)
 ·rename_i f first cap
  split at h
  ·rename_i hf
   cases h
   have hf' : first = #[] := by cases first; simp_all
   refine fin (Instr.makeFunc (.func f) (first.map ρ) (cap.map ρ)) (by simp only [execOp, hop]) (.same rfl rfl pre ⟨.func (.func f) (first.map ρ) (cap.map ρ), rfl, ?_⟩)
   simp only [V.R, hf', Array.map_empty]
   refine ⟨_, rfl, ?_⟩
   rw [Array.toList_map]
   exact RL_map fun x hx => hops x (by simp only [Op.operands]; exact Array.mem_append.2 (.inr (by simpa using hx)))
  ·cases h
 ·exact fin _ (by simp only [execOp, hop]) (makeSlice_sound h (hops _ (by simp [Op.operands])) (hops _ (by simp [Op.operands])) pre)
 ·rename_i t x lo hi mx
  obtain ⟨h1, h2, _, h4⟩ := slice_sound h (hops _ (by simp [Op.operands])) (OptR_map (ρ := ρ) fun y hy => hops y (by simp [Op.operands, hy])) (OptR_map (ρ := ρ) fun y hy => hops y (by simp [Op.operands, hy])) (OptR_map (ρ := ρ) fun y hy => hops y (by simp [Op.operands, hy])) pre
  exact fin _ (by simp only [execOp, hop]) (.same h1 h2 pre h4)
 ·rename_i t x f
  split at h
  case h_4 => cases h
  case h_3 b base rel fd hx hfd =>
   split at h
   case h_2 => cases h
   case h_1 s hs =>
   cases h
   have hc := hops x (by simp [Op.operands])
   rw [hx] at hc
   simp only [V.R] at hc
   obtain ⟨g, hg, hv⟩ := hc
   unfold fieldOf at hfd
   split at hfd
   case h_2 => cases hfd
   case h_1 fields hu =>
   refine fin (Instr.fieldAt t (ρ x) f) (by simp only [execOp, hop]) (.same rfl rfl pre ⟨.pointer (some ⟨g, base + (rel + fd.offset), none⟩), ?_, ?_⟩)
   ·simp only [hv, Instr.fieldAt, Sem.run_bind, run_underlying hu, Result.andThen_ok, hfd, Instr.sureAddr, Sem.run_pure, fieldPlace, run_sizeOf hs]
    rw [if_neg (by omega)]
    simp [Addr.add_mid, Nat.add_assoc]
   ·simp only [V.R]; exact ⟨g, hg, rfl⟩
  case h_2 cs fd hx hfd =>
   split at h
   case h_2 => cases h
   case h_1 s hs =>
   cases h
   have hc := hops x (by simp [Op.operands])
   rw [hx] at hc
   simp only [V.R] at hc
   obtain ⟨g, off, hv, hmem⟩ := hc
   unfold fieldOf at hfd
   split at hfd
   case h_2 => cases hfd
   case h_1 fields hu =>
   refine fin (Instr.fieldAt t (ρ x) f) (by simp only [execOp, hop]) (.same rfl rfl pre ⟨.pointer (some ⟨g, off + fd.offset, none⟩), ?_, ?_⟩)
   ·simp only [hv, Instr.fieldAt, Sem.run_bind, run_underlying hu, Result.andThen_ok, hfd, Instr.sureAddr, Sem.run_pure, fieldPlace, run_sizeOf hs]
    rw [if_neg (by omega)]
    simp [Addr.add_mid]
   ·simp only [V.R]; exact ⟨g, off + fd.offset, rfl, memDrop hmem⟩
  case h_1 b off fd hx hfd =>
  split at h
  case h_2 => cases h
  case h_1 s hs =>
  cases h
  have hc := hops x (by simp [Op.operands])
  rw [hx] at hc
  simp only [V.R] at hc
  obtain ⟨g, hg, hv⟩ := hc
  unfold fieldOf at hfd
  split at hfd
  case h_2 => cases hfd
  case h_1 fields hu =>
  refine fin (Instr.fieldAt t (ρ x) f) (by simp only [execOp, hop]) (.same rfl rfl pre ⟨.pointer (some ⟨g, off + fd.offset, none⟩), ?_, ?_⟩)
  ·simp only [hv, Instr.fieldAt, Sem.run_bind, run_underlying hu, Result.andThen_ok, hfd, Instr.sureAddr, Sem.run_pure, fieldPlace, run_sizeOf hs]
   rw [if_neg (by omega)]
   simp [Addr.add_mid]
  ·simp only [V.R]; exact ⟨g, hg, rfl⟩
 ·rename_i t x f
  split at h
  case h_2 => cases h
  case h_1 cs fd hx hfd =>
  obtain ⟨v, hv, rfl⟩ := Option.map_eq_some_iff.1 h
  have hc := hops x (by simp [Op.operands])
  rw [hx] at hc
  simp only [V.R] at hc
  obtain ⟨vs, hvs, hrl⟩ := hc
  unfold fieldOf at hfd
  split at hfd
  case h_2 => cases hfd
  case h_1 fields hu =>
  obtain ⟨val, h1, h2⟩ := part_sound hv hrl
  refine fin (Instr.field t (ρ x) f) (by simp only [execOp, hop]) (.same rfl rfl pre ⟨val, ?_, h2⟩)
  simp only [hvs, Instr.field, Sem.run_bind, run_underlying hu, Result.andThen_ok, hfd, asAgg, Sem.run_pure, h1]
 ·rename_i t x i
  split at h
  case h_3 => cases h
  case h_2 n full cs k ii el hx hi hu =>
   split at h
   case h_2 => cases h
   case h_1 s hs =>
   split at h
   case isFalse => cases h
   case isTrue hin =>
   cases h
   have hc := hops x (by simp [Op.operands])
   have hci := hops i (by simp [Op.operands])
   rw [hx] at hc
   rw [hi] at hci
   simp only [V.R] at hc hci
   obtain ⟨a, cap, hv, hnc, _, hadr, hmem⟩ := hc
   rcases hadr with ⟨_, h0⟩ | ⟨g, off, rfl⟩
   ·omega
   have hmem : cs = [] ∨ I g ∧ ∃ cells e fr, w.heap[g]? = some (.cells cells e fr) ∧ V.RL P I noMu w cs ((cells.toList.drop off).take cs.length) := by
    rcases hmem with h | h0 | ⟨g', off', he, hm⟩
    ·exact .inl h
    ·omega
    ·cases he; exact .inr hm
   refine fin (Instr.indexAt t (ρ x) (ρ i)) (by simp only [execOp, hop]) (.same rfl rfl pre ⟨.pointer (some ⟨g, off + ii.toNat * s, none⟩), ?_, ?_⟩)
   ·simp only [hv, hci, Instr.indexAt, Sem.run_bind, asIntOf, run_underlying hu, Result.andThen_ok, Sem.run_pure, hin, and_self, if_true, run_sizeOf hs, Addr.add_mid]
   ·simp only [V.R]; exact ⟨g, _, rfl, memDrop hmem⟩
  case h_1 b off n full k ii el hx hi hu =>
  split at h
  case h_2 => cases h
  case h_1 s hs =>
  split at h
  case isFalse => cases h
  case isTrue hin =>
  cases h
  have hc := hops x (by simp [Op.operands])
  have hci := hops i (by simp [Op.operands])
  rw [hx] at hc
  rw [hi] at hci
  simp only [V.R] at hc hci
  obtain ⟨g, cap, e', N, inf, hg, hv, _⟩ := hc.resolve_right (by rintro ⟨_, h0, _⟩; omega)
  refine fin (Instr.indexAt t (ρ x) (ρ i)) (by simp only [execOp, hop]) (.same rfl rfl pre ⟨.pointer (some ⟨g, off + ii.toNat * s, none⟩), ?_, ?_⟩)
  ·simp only [hv, hci, Instr.indexAt, Sem.run_bind, asIntOf, run_underlying hu, Result.andThen_ok, Sem.run_pure, hin, and_self, if_true, run_sizeOf hs, Addr.add_mid]
  ·simp only [V.R]; exact ⟨g, hg, rfl⟩
 ·rename_i t x i
  obtain ⟨v, hv, rfl⟩ := Option.map_eq_some_iff.1 h
  have hc := hops x (by simp [Op.operands])
  have hci := hops i (by simp [Op.operands])
  unfold evIndex at hv
  split at hv
  case h_2 => cases hv
  case h_1 l k ii hx hi =>
  rw [hx] at hc
  rw [hi] at hci
  simp only [V.R] at hc hci
  split at hv
  case h_2 => cases hv
  case h_1 hu =>
  split at hv
  case isFalse => cases hv
  case isTrue h0 =>
  obtain ⟨b, hb, rfl⟩ := Option.map_eq_some_iff.1 hv
  obtain ⟨hlt, hbe⟩ := List.getElem?_eq_some_iff.1 hb
  refine fin (Instr.index t (ρ x) (ρ i)) (by simp only [execOp, hop]) (.same rfl rfl pre ⟨.int .u8 b.toNat, ?_, by simp [V.R]⟩)
  rw [hc, hci, run_index_string w t _ k ii hu]
  have hsz : (⟨l.toArray⟩ : ByteArray).size = l.length := rfl
  rw [dif_pos ⟨h0, by rw [hsz]; omega⟩]
  have : (⟨l.toArray⟩ : ByteArray)[ii.toNat]'(by rw [hsz]; omega) = b := by rw [← hbe]; rfl
  rw [this]
 ·rename_i x i
  split at h
  case h_2 => cases h
  case h_1 vs hx =>
  obtain ⟨v, hv, rfl⟩ := Option.map_eq_some_iff.1 h
  have hc := hops x (by simp [Op.operands])
  rw [hx] at hc
  simp only [V.R] at hc
  obtain ⟨us, hus, hrl⟩ := hc
  obtain ⟨u, hu, hr⟩ := hrl.get hv
  refine fin (Instr.extract (ρ x) i) (by simp only [execOp, hop]) (.same rfl rfl pre ⟨u, ?_, hr⟩)
  rw [Array.getElem?_toList] at hu
  simp only [hus, Instr.extract, hu, Sem.run_pure]
 ·rename_i c
  have hargs : ∀ x ∈ c.args, V.R P I μ w (e x) (ρ x) := fun x hx => hops x (by simp only [Op.operands, Call.operands]; exact Array.mem_append.2 (.inr hx))
  split at h
  ·rename_i s x t t' hcal ha hat
   have ha' : c.args = #[s, x] := by cases hca : c.args; rw [hca] at ha; simp at ha; simp [ha]
   have hat' : c.argTypes = #[t, t'] := by cases hca : c.argTypes; rw [hca] at hat; simp at hat; simp [hat]
   rw [ha'] at hargs
   refine fin2 (Builtin.append_ #[t, t'] o.type #[ρ s, ρ x]) ?_ (append_sound h (hargs s (by simp)) (hargs x (by simp)) pre)
   simp only [execOp, hop, resolve, hcal, ha', hat', invoke, builtin, Sem.run_bind, Sem.run_pure, Result.andThen_ok, List.map_toArray, List.map_cons, List.map_nil]
  ·rename_i x t hcal ha hat
   have ha' : c.args = #[x] := by cases hca : c.args; rw [hca] at ha; simp at ha; simp [ha]
   have hat' : c.argTypes = #[t] := by cases hca : c.argTypes; rw [hca] at hat; simp at hat; simp [hat]
   rw [ha'] at hargs
   obtain ⟨h1, h2, _, h4⟩ := len_sound (ty := o.type) h (hargs x (by simp))
   refine fin2 (Builtin.len_ #[t] o.type #[ρ x]) ?_ (.same h1 h2 pre h4)
   simp only [execOp, hop, resolve, hcal, ha', hat', invoke, builtin, Sem.run_bind, Sem.run_pure, Result.andThen_ok, List.map_toArray, List.map_cons, List.map_nil]
  ·rename_i x y hcal ha
   have ha' : c.args = #[x, y] := by cases hca : c.args; rw [hca] at ha; simp at ha; simp [ha]
   rw [ha'] at hargs
   obtain ⟨v, hv, rfl⟩ := Option.map_eq_some_iff.1 h
   have h1 := hargs x (by simp)
   have h2 := hargs y (by simp)
   unfold evMin at hv
   split at hv
   case h_2 => cases hv
   rename_i k a k' b hx hy
   cases hv
   rw [hx] at h1
   rw [hy] at h2
   simp only [V.R] at h1 h2
   refine fin2 (Builtin.min_ c.argTypes o.type #[ρ x, ρ y]) ?_ (.same rfl rfl pre ⟨.int k (if b < a then b else a), ?_, by simp only [V.R]⟩)
   ·simp only [execOp, hop, resolve, hcal, ha', invoke, builtin, Sem.run_bind, Sem.run_pure, Result.andThen_ok, List.map_toArray, List.map_cons, List.map_nil]
   ·rw [h1, h2]; simp [Builtin.min_, Builtin.min2]
  ·rename_i x y hcal ha
   have ha' : c.args = #[x, y] := by cases hca : c.args; rw [hca] at ha; simp at ha; simp [ha]
   rw [ha'] at hargs
   obtain ⟨v, hv, rfl⟩ := Option.map_eq_some_iff.1 h
   have h1 := hargs x (by simp)
   have h2 := hargs y (by simp)
   unfold evMax at hv
   split at hv
   case h_2 => cases hv
   rename_i k a k' b hx hy
   cases hv
   rw [hx] at h1
   rw [hy] at h2
   simp only [V.R] at h1 h2
   refine fin2 (Builtin.max_ c.argTypes o.type #[ρ x, ρ y]) ?_ (.same rfl rfl pre ⟨.int k (if b > a then b else a), ?_, by simp only [V.R]⟩)
   ·simp only [execOp, hop, resolve, hcal, ha', invoke, builtin, Sem.run_bind, Sem.run_pure, Result.andThen_ok, List.map_toArray, List.map_cons, List.map_nil]
   ·rw [h1, h2]; simp [Builtin.max_, Builtin.max2]
  ·cases h
 ·cases h
end
end Go.Proofs.YtfncaghjfgnnhaaGreatDoor

namespace Go.Proofs.YtfncaghjfgnnhaaGreatDoor
open Go.RowKit
set_option maxRecDepth 100000
def nilC : Operand → Bool
 | .const (.slice none 0 0) => true
 | _ => false
def isNilV : V → Option Bool
 | .sl _ _ (_ + 1) _ => some false
 | .dsl (_ + 1) _ _ => some false
 | .lit (.slice none 0 0) => some true
 | .lit (.slice (some _) _ _) => some false
 | _ => none
def evClear (P : Program) (hp : Hp) (t : TypeId) (x : V) : Option Out :=
 match P.underlying t with
 | some (.slice elem) => match x with
  | .dsl 0 _ _ => some ⟨.tup [], hp, [], []⟩
  | .sl _ _ 0 _ => some ⟨.tup [], hp, [], []⟩
  | .sl b off (n + 1) _ => match P.info? elem, hp[b]? with
   | some i, some (some blk) => match i.zero with
    | some z =>
     if blk.2 = elem ∧ 0 < i.size ∧ z.cells.size = i.size ∧ (zeros (z.cells.toList.map ofScalar) ((n + 1) * i.size)).all V.one = true ∧ off + (n + 1) * i.size ≤ (flat blk.1).length then
      match spliceV blk.1 off ((n + 1) * i.size) (zeros (z.cells.toList.map ofScalar) ((n + 1) * i.size)) with
      | some l => some ⟨.tup [], hp.set b (some (l, blk.2)), [b], [b]⟩
      | none => none
     else none
    | none => none
   | _, _ => none
  | _ => none
 | _ => none
def evApp0 (P : Program) (hp : Hp) (t t' : TypeId) (s x : V) : Option Out :=
 match P.underlying t, t == t' with
 | some (.slice elem), true => match P.info? elem, s, x with
  | some _, .sl b off n full, .lit (.slice _ 0 _) => some ⟨.sl b off n full, hp, [], []⟩
  | some _, .dsl n full cs, .lit (.slice _ 0 _) => some ⟨.dsl n full cs, hp, [], []⟩
  | _, _, _ => none
 | _, _ => none
def evCopy (P : Program) (hp : Hp) (t : TypeId) (s x : V) : Option Out :=
 match P.underlying t with
 | some (.slice elem) =>
  match P.info? elem, s with
  | some i, .sl b off n _ =>
   match hp[b]?, srcV hp i.size x with
   | some (some blk), some (bs, m, news) =>
    if 0 < m ∧ 0 < i.size ∧ m ≤ n ∧ off + m * i.size ≤ (flat blk.1).length then
     match spliceV blk.1 off (m * i.size) (flat news) with
     | some l => some ⟨.int .i64 m, hp.set b (some (l, blk.2)), b :: bs, [b]⟩
     | none => none
    else none
   | _, _ => none
  | _, _ => none
 | _ => none
def evMore (P : Program) (e : Operand → V) (hp : Hp) : Op → Option Out
 | .binOp op t x y _ => match nilC y with
  | true => match P.underlying t, isNilV (e x), op with
   | some (.slice _), some b, .eql => some ⟨.bool b, hp, [], []⟩
   | some (.slice _), some b, .neq => some ⟨.bool (!b), hp, [], []⟩
   | _, _, _ => none
  | false => match op, e x, e y with
   | .shr, .int k a, .int _ b => if 0 ≤ b then some ⟨.int k (a.fdiv (2 ^ min b.toNat k.bits)), hp, [], []⟩ else none
   | .shl, .int k a, .int _ b => if 0 ≤ b then some ⟨.int k (k.wrap (a * 2 ^ min b.toNat k.bits)), hp, [], []⟩ else none
   | _, _, _ => none
 | .call c => match c.callee, c.args.toList, c.argTypes.toList with
  | .builtin .append, [s, x], [t, t'] => evApp0 P hp t t' (e s) (e x)
  | .builtin .clear, [x], [t] => evClear P hp t (e x)
  | .builtin .copy, [s, x], [t, _] => evCopy P hp t (e s) (e x)
  | _, _, _ => none
 | .makeInterface t x => match P.underlying t with
  | some (.interface _) => none
  | some _ => some ⟨.box (.iface t) [e x], hp, [], []⟩
  | none => none
 | .makeFunc (.func f) first cap => some ⟨.box (.bound f first.size) ((first ++ cap).toList.map e), hp, [], []⟩
 | .indexAddr t x i => match P.underlying t, e x, e i with
  | some (.array n el), .ptr b off, .int _ i => match szOf P el with
   | some s => if 0 ≤ i ∧ i < n then some ⟨.ptr b (off + i.toNat * s), hp, [], []⟩ else none
   | none => none
  | _, _, _ => none
 | _ => none
section
variable {P : Program} {I : Nat → Prop} {μ : Mu} {w : World} {hp : Hp} {out : Out}
theorem copy_tidy {t : TypeId} {x y : V} (h : evCopy P hp t x y = some out) : Tidy hp out.hp out.acc out.wr := by
 unfold evCopy at h
 split at h
 case h_2 => cases h
 split at h
 case h_2 => cases h
 split at h
 case h_2 => cases h
 case h_1 i b off n full hi blk bs m news hb hsrc =>
 split at h
 ·split at h
  ·cases h
   exact ⟨by simp, fun c hc hn => by rw [List.getElem?_set_ne (fun e => hn (by simp [e]))], by simp, fun c hc => by
    rcases List.mem_cons.1 hc with rfl | hc
    ·exact at_lt hb
    ·exact src_tidy hsrc c hc, by intro c hc; obtain rfl := List.mem_singleton.1 hc; exact ⟨_, hb⟩⟩
  ·cases h
 ·cases h
theorem more_tidy {e : Operand → V} {op : Op} (h : evMore P e hp op = some out) : Tidy hp out.hp out.acc out.wr := by
 unfold evMore at h
 split at h
 ·split at h
  ·split at h
   ·cases h; exact .same hp (by simp)
   ·cases h; exact .same hp (by simp)
   ·cases h
  ·split at h
   ·split at h
    ·cases h; exact .same hp (by simp)
    ·cases h
   ·split at h
    ·cases h; exact .same hp (by simp)
    ·cases h
   ·cases h
 ·split at h
  ·unfold evApp0 at h
   split at h
   ·split at h
    ·cases h; exact .same hp (by simp)
    ·cases h; exact .same hp (by simp)
    ·cases h
   ·cases h
  ·unfold evClear at h
   split at h
   case h_2 => cases h
   split at h
   ·cases h; exact .same hp (by simp)
   ·cases h; exact .same hp (by simp)
   ·split at h
    ·rename_i i blk hi hb
     split at h
     ·split at h
      ·split at h
       ·cases h
        exact ⟨by simp, fun c hc hn => by rw [List.getElem?_set_ne (fun e => hn (by simp [e]))], by simp, by simpa using at_lt hb, by intro c hc; obtain rfl := List.mem_singleton.1 hc; exact ⟨_, hb⟩⟩
       ·cases h
      ·cases h
     ·cases h
    ·cases h
   ·cases h
  ·exact copy_tidy h
  ·cases h
 ·split at h
  ·cases h
  ·cases h; exact .same hp (by simp)
  ·cases h
 ·cases h; exact .same hp (by simp)
 ·split at h
  ·split at h
   ·split at h
    ·cases h; exact .same hp (by simp)
    ·cases h
   ·cases h
  ·cases h
 ·cases h
theorem run_equalIn_nil (w : World) (d : Nat) (t e : TypeId) (a : Option Addr) (l c : Nat) (h : P.underlying t = some (.slice e)) : (Op.equalIn (d + 1) t (.slice a l c) (.slice none 0 0)).run P w = .ok a.isNone w := by
 cases a <;> simp [Op.equalIn, run_underlying h]
theorem run_equal_nil (w : World) (t e : TypeId) (a : Option Addr) (l c : Nat) (h : P.underlying t = some (.slice e)) : (Op.equal t (.slice a l c) (.slice none 0 0)).run P w = .ok a.isNone w := run_equalIn_nil w 9999 t e a l c h
theorem nil_sound {t : TypeId} {ox oy : Operand} {x : V} {vx vy : Value} {b : Bool} {e : TypeId} {op : BinOp} (hu : P.underlying t = some (.slice e)) (hn : isNilV x = some b) (hx : V.R P I μ w x vx) (hy : vy = .slice none 0 0) (hop : op = .eql ∨ op = .neq) :
  (do eqGuard op t ox oy vx vy; binOp op t vx vy : Sem Value).run P w = .ok (.bool (if op = .eql then b else !b)) w := by
 subst hy
 have key : ∃ a l c, vx = .slice a l c ∧ b = a.isNone := by
  unfold isNilV at hn
  split at hn
  ·cases hn
   simp only [V.R] at hx
   obtain ⟨g, cap, _, _, _, _, rfl, _⟩ := hx.resolve_right (by rintro ⟨_, h0, _⟩; omega)
   exact ⟨_, _, _, rfl, rfl⟩
  ·cases hn
   simp only [V.R] at hx
   obtain ⟨a, cap, rfl, hle, _, ha, _⟩ := hx
   rcases ha with ⟨_, h0⟩ | ⟨g, off, rfl⟩
   ·omega
   ·exact ⟨_, _, _, rfl, rfl⟩
  ·cases hn
   simp only [V.R] at hx
   exact ⟨_, _, _, hx, rfl⟩
  ·cases hn
   simp only [V.R] at hx
   exact ⟨_, _, _, hx, rfl⟩
  ·cases hn
 obtain ⟨a, l, c, rfl, rfl⟩ := key
 rw [Sem.run_bind, guard_slice]
 simp only [Result.andThen_ok]
 rcases hop with rfl | rfl
 ·simp only [binOp]
  simp [run_equal_nil w t e a l c hu]
 ·simp only [binOp]
  simp [run_equal_nil w t e a l c hu]
theorem clear_sound {t ty : TypeId} {x : V} {vx : Value} (h : evClear P hp t x = some out) (hx : V.R P I μ w x vx) (pre : Pre P I μ w hp out.acc out.hp.length) : DoesP P I μ w hp out (Builtin.clear_ #[t] ty #[vx]) := by
 unfold evClear at h
 split at h
 case h_2 => cases h
 case h_1 elem hu =>
 split at h
 ·cases h
  simp only [V.R] at hx
  obtain ⟨a, cap, rfl, _⟩ := hx
  refine .same rfl rfl pre ⟨.tuple #[], ?_, by simp [V.R, V.RL]⟩
  cases a <;> simp [Builtin.clear_, run_underlying hu]
 ·cases h
  simp only [V.R] at hx
  rcases hx with ⟨g, cap, _, _, _, _, rfl, _⟩ | ⟨_, _, a', rfl, _⟩
  ·refine .same rfl rfl pre ⟨.tuple #[], ?_, by simp [V.R, V.RL]⟩
   simp [Builtin.clear_, run_underlying hu]
  ·refine .same rfl rfl pre ⟨.tuple #[], ?_, by simp [V.R, V.RL]⟩
   cases a' <;> simp [Builtin.clear_, run_underlying hu]
 ·rename_i b off n full
  split at h
  case h_2 => cases h
  case h_1 i blk hi hb =>
  split at h
  case h_2 => cases h
  case h_1 z hz =>
  split at h
  case isFalse => cases h
  case isTrue hc =>
  obtain ⟨hel, hpos, hzs, h1, hle⟩ := hc
  split at h
  case h_2 => cases h
  case h_1 l' hsp =>
  cases h
  simp only [V.R] at hx
  obtain ⟨g, cap, e, N, i', hg, rfl, _, _, _, hsh, _⟩ := hx.resolve_right (by rintro ⟨_, h0, _⟩; omega)
  obtain ⟨cs, fr, _, hw, hfr, ⟨hsz, hcr⟩, _⟩ := (pre.holds b (by simp) blk hb).realS hg hsh
  have hrow : Row w g blk.2 cs := ⟨fr, hw, hfr⟩
  have hzl : V.RL P I μ w (zeros (z.cells.toList.map ofScalar) ((n + 1) * i.size)) (Builtin.zeroCells z.cells (n + 1)).toList := by
   have := RL_zeros (P := P) (I := I) (μ := μ) (w := w) z.cells ((n + 1) * i.size)
   unfold Builtin.zeroCells
   rw [hzs]; rw [hzs] at this; exact this
  have hvl : (Builtin.zeroCells z.cells (n + 1)).toList.length = (n + 1) * i.size := by simp [Builtin.zeroCells, hzs]
  have hst := storeCells_row P g off blk.2 (Builtin.zeroCells z.cells (n + 1)).toList 0 cs w hrow (by omega) (ones hzl h1)
  simp only [Nat.add_zero] at hst
  obtain ⟨hl2, F', hF', hcr2⟩ := splice_sound hsp hcr hzl (by simp [zeros]) hle
  refine ⟨.tuple #[], w.setRow g (cs.toList.take off ++ (Builtin.zeroCells z.cells (n + 1)).toList ++ cs.toList.drop (off + (Builtin.zeroCells z.cells (n + 1)).toList.length)).toArray, μ.setFt b F', ?_, by simp [V.R, V.RL], ?_⟩
  ·simp [Builtin.clear_, Sem.run_bind, run_underlying hu, zeroValue, typeInfo, hi, hz]
   rw [hst]
   simp
  ·have e := take_splice cs.toList (Builtin.zeroCells z.cells (n + 1)).toList off (flat blk.1).length (by omega) (by simpa using hsz)
   have hvs : (Builtin.zeroCells z.cells (n + 1)).size = (n + 1) * i.size := by simpa using hvl
   refine Good.writeC (blk' := (l', blk.2)) (by simpa using pre) (by simp) hb hg hw rfl ?_ hfr hF' ?_
   ·simp only [List.size_toArray, List.length_append, List.length_take, List.length_drop, Array.length_toList]; omega
   ·refine ⟨?_, ?_⟩
    ·show (flat l').length ≤ _
     rw [hl2]; simp only [List.size_toArray, List.length_append, List.length_take, List.length_drop, Array.length_toList]; omega
    ·show CR P I μ w F' l' (List.take (flat l').length _)
     rw [hl2, e, hvl]
     exact hcr2
 ·cases h
theorem copy_sound {t t' ty : TypeId} {x y : V} {vx vy : Value} (h : evCopy P hp t x y = some out) (hx : V.R P I μ w x vx) (hy : V.R P I μ w y vy) (pre : Pre P I μ w hp out.acc out.hp.length) : DoesP P I μ w hp out (Builtin.copy_ #[t, t'] ty #[vx, vy]) := by
 unfold evCopy at h
 split at h
 case h_2 => cases h
 case h_1 elem hu =>
 split at h
 case h_2 => cases h
 case h_1 i b off n full hi =>
 split at h
 case h_2 => cases h
 case h_1 blk bs m news hb hsrc =>
 split at h
 case isFalse => cases h
 case isTrue hc =>
 obtain ⟨hm, hpos, hmn, hle⟩ := hc
 split at h
 case h_2 => cases h
 case h_1 l' hsp =>
 cases h
 simp only [V.R] at hx
 obtain ⟨g, cap, e, N, i', hg, rfl, _, _, _, hsh, _⟩ := hx.resolve_right (by rintro ⟨_, h0, _⟩; omega)
 obtain ⟨a, c, nv, rfl, h1, h2, hone, h3, _, hno⟩ := src_sound hsrc hy fun b' hb' => pre.holds b' (by simp [hb'])
 obtain ⟨cs, fr, _, hw, hfr, ⟨hsz, hcr⟩, _⟩ := (pre.holds b (by simp) blk hb).realS hg hsh
 have h2r := (h2.toXL.toRL hno).2
 have hrow : Row w g blk.2 cs := ⟨fr, hw, hfr⟩
 have hnv := h2.length
 have hvl : nv.length = m * i.size := by rw [hnv, h1]
 have hmp : 0 < m * i.size := Nat.mul_pos hm hpos
 have hne : nv ≠ [] := by
  rintro rfl
  simp at hvl; omega
 obtain ⟨ad, rfl, hcells⟩ := lies_cells h3 hne
 have hf := run_firstCells_some (P := P) w i.size m ad m c nv hvl hcells
 have hst := storeCells_row P g off blk.2 nv 0 cs w hrow (by omega) hone
 simp only [Nat.add_zero] at hst
 obtain ⟨hl2, F', hF', hcr2⟩ := splice_sound hsp hcr h2r h1 hle
 refine ⟨.int .i64 m, w.setRow g (cs.toList.take off ++ nv ++ cs.toList.drop (off + nv.length)).toArray, μ.setFt b F', ?_, by simp [V.R], ?_⟩
 ·have hmin : Nat.min m n = m := Nat.min_eq_left hmn
  simp [Builtin.copy_, Sem.run_bind, run_underlying hu, sizeOf, typeInfo, hi, Builtin.lenOf, hmin, hf, hst]
  rfl
 ·have e := take_splice cs.toList nv off (flat blk.1).length (by omega) (by simpa using hsz)
  refine Good.writeC (blk' := (l', blk.2)) (by simpa using pre) (by simp) hb hg hw rfl ?_ hfr hF' ?_
  ·simp only [List.size_toArray, List.length_append, List.length_take, List.length_drop, Array.length_toList]; omega
  ·refine ⟨?_, ?_⟩
   ·show (flat l').length ≤ _
    rw [hl2]; simp only [List.size_toArray, List.length_append, List.length_take, List.length_drop, Array.length_toList]; omega
   ·show CR P I μ w F' l' (List.take (flat l').length _)
    rw [hl2, e, hvl]
    exact hcr2
theorem app0_sound {t t' ty : TypeId} {x y : V} {vx vy : Value} (h : evApp0 P hp t t' x y = some out) (hx : V.R P I μ w x vx) (hy : V.R P I μ w y vy) (pre : Pre P I μ w hp out.acc out.hp.length) : DoesP P I μ w hp out (Builtin.append_ #[t, t'] ty #[vx, vy]) := by
 unfold evApp0 at h
 split at h
 case h_2 => cases h
 case h_1 elem hu htt =>
 obtain rfl : t = t' := by simpa using htt
 split at h
 ·rename_i i b off n full a c hi
  cases h
  have hx0 := hx
  simp only [V.R] at hx hy
  subst hy
  rcases hx with ⟨g, cap, e, N, i', hg, rfl, hle, _⟩ | ⟨_, rfl, a', rfl, _⟩
  ·exact .same rfl rfl pre ⟨_, append_zero hu hi _ n cap hle a c, hx0⟩
  ·exact .same rfl rfl pre ⟨_, append_zero hu hi a' 0 0 (Nat.le_refl _) a c, hx0⟩
 ·rename_i i n full cs a c hi
  cases h
  have hx0 := hx
  simp only [V.R] at hx hy
  subst hy
  obtain ⟨b, cap, rfl, hle, _⟩ := hx
  exact .same rfl rfl pre ⟨_, append_zero hu hi _ n cap hle a c, hx0⟩
 ·cases h
theorem more_sound {o : Oper} {e : Operand → V} {ρ : Operand → Value} (hρ : ∀ v, ρ (.const v) = v) (h : evMore P e hp o.op = some out) (hops : ∀ x ∈ o.op.operands, V.R P I μ w (e x) (ρ x)) (pre : Pre P I μ w hp out.acc out.hp.length) :
  ∃ val w' μ', (execOp ρ o).run P w = .ok (.value val) w' ∧ V.R P I μ' w' out.v val ∧ Good P I I μ μ' w w' hp out.hp out.acc out.wr := by
 have fin : ∀ s : Sem Value, (execOp ρ o).run P w = (do pure (.value (← s)) : Sem Next).run P w → DoesP P I μ w hp out s → ∃ val w' μ', (execOp ρ o).run P w = .ok (.value val) w' ∧ V.R P I μ' w' out.v val ∧ Good P I I μ μ' w w' hp out.hp out.acc out.wr := by
  intro s hs ⟨val, w', μ', h1, h2, h3⟩
  exact ⟨val, w', μ', by rw [hs]; simp only [Sem.run_bind, h1, Result.andThen_ok, Sem.run_pure], h2, h3⟩
 unfold evMore at h
 split at h <;> first | (rename_i hop; rw [hop] at hops) | skip
 ·rename_i op t x y yt
  have hx := hops x (by simp [Op.operands])
  split at h
  ·rename_i hn
   have hy : ρ y = .slice none 0 0 := by
    unfold nilC at hn
    split at hn
    ·exact hρ _
    ·cases hn
   split at h
   ·rename_i e b hu hv
    cases h
    refine fin (do eqGuard .eql t x y (ρ x) (ρ y); binOp .eql t (ρ x) (ρ y)) (by simp only [execOp, hop]) (.same rfl rfl pre ⟨_, nil_sound hu hv hx hy (.inl rfl), by simp [V.R]⟩)
   ·rename_i e b hu hv
    cases h
    refine fin (do eqGuard .neq t x y (ρ x) (ρ y); binOp .neq t (ρ x) (ρ y)) (by simp only [execOp, hop]) (.same rfl rfl pre ⟨_, nil_sound hu hv hx hy (.inr rfl), by simp [V.R]⟩)
   ·cases h
  ·have hy := hops y (by simp [Op.operands])
   split at h
   ·rename_i k a k' b hex hey
    split at h
    ·rename_i hb
     cases h
     rw [hex] at hx
     rw [hey] at hy
     simp only [V.R] at hx hy
     refine fin (do eqGuard .shr t x y (ρ x) (ρ y); binOp .shr t (ρ x) (ρ y)) (by simp only [execOp, hop]) (.same rfl rfl pre ⟨.int k (a.fdiv (2 ^ min b.toNat k.bits)), ?_, by simp [V.R]⟩)
     rw [hx, hy, Sem.run_bind, guard_int]
     simp only [Result.andThen_ok, binOp, Op.shift]
     rw [if_neg (by omega)]
     rfl
    ·cases h
   ·rename_i k a k' b hex hey
    split at h
    ·rename_i hb
     cases h
     rw [hex] at hx
     rw [hey] at hy
     simp only [V.R] at hx hy
     refine fin (do eqGuard .shl t x y (ρ x) (ρ y); binOp .shl t (ρ x) (ρ y)) (by simp only [execOp, hop]) (.same rfl rfl pre ⟨.int k (k.wrap (a * 2 ^ min b.toNat k.bits)), ?_, by simp [V.R]⟩)
     rw [hx, hy, Sem.run_bind, guard_int]
     simp only [Result.andThen_ok, binOp, Op.shift]
     rw [if_neg (by omega)]
     rfl
    ·cases h
   ·cases h
 ·rename_i c
  have hargs : ∀ x ∈ c.args, V.R P I μ w (e x) (ρ x) := fun x hx => hops x (by simp only [Op.operands, Call.operands]; exact Array.mem_append.2 (.inr hx))
  split at h
  ·rename_i s x t t' hcal ha hat
   have ha' : c.args = #[s, x] := by cases hca : c.args; rw [hca] at ha; simp at ha; simp [ha]
   have hat' : c.argTypes = #[t, t'] := by cases hca : c.argTypes; rw [hca] at hat; simp at hat; simp [hat]
   rw [ha'] at hargs
   refine fin (Builtin.append_ #[t, t'] o.type #[ρ s, ρ x]) ?_ (app0_sound h (hargs s (by simp)) (hargs x (by simp)) pre)
   simp only [execOp, hop, resolve, hcal, ha', hat', invoke, builtin, Sem.run_bind, Sem.run_pure, Result.andThen_ok, List.map_toArray, List.map_cons, List.map_nil]
  ·rename_i x t hcal ha hat
   have ha' : c.args = #[x] := by cases hca : c.args; rw [hca] at ha; simp at ha; simp [ha]
   have hat' : c.argTypes = #[t] := by cases hca : c.argTypes; rw [hca] at hat; simp at hat; simp [hat]
   rw [ha'] at hargs
   refine fin (Builtin.clear_ #[t] o.type #[ρ x]) ?_ (clear_sound h (hargs x (by simp)) pre)
   simp only [execOp, hop, resolve, hcal, ha', hat', invoke, builtin, Sem.run_bind, Sem.run_pure, Result.andThen_ok, List.map_toArray, List.map_cons, List.map_nil]
  ·rename_i s x t t' hcal ha hat
   have ha' : c.args = #[s, x] := by cases hca : c.args; rw [hca] at ha; simp at ha; simp [ha]
   have hat' : c.argTypes = #[t, t'] := by cases hca : c.argTypes; rw [hca] at hat; simp at hat; simp [hat]
   rw [ha'] at hargs
   refine fin (Builtin.copy_ #[t, t'] o.type #[ρ s, ρ x]) ?_ (copy_sound h (hargs s (by simp)) (hargs x (by simp)) pre)
   simp only [execOp, hop, resolve, hcal, ha', hat', invoke, builtin, Sem.run_bind, Sem.run_pure, Result.andThen_ok, List.map_toArray, List.map_cons, List.map_nil]
  ·cases h
 ·rename_i t x
  have hx := hops x (by simp [Op.operands])
  split at h
  ·cases h
  ·rename_i d hni hu
   cases h
   refine fin (Instr.makeInterface t (ρ x)) (by simp only [execOp, hop]) (.same rfl rfl pre ⟨.iface t (ρ x), ?_, ?_⟩)
   ·simp only [Instr.makeInterface, Sem.run_bind, run_underlying hu, Result.andThen_ok]
    rfl
   ·simp only [V.R, V.RL]
    exact ⟨#[ρ x], by simp [BK.mk], ρ x, [], rfl, hx, rfl⟩
  ·cases h
 ·rename_i f first cap
  cases h
  refine fin (Instr.makeFunc (.func f) (first.map ρ) (cap.map ρ)) (by simp only [execOp, hop]) (.same rfl rfl pre ⟨.func (.func f) (first.map ρ) (cap.map ρ), rfl, ?_⟩)
  simp only [V.R]
  refine ⟨(first ++ cap).map ρ, ?_, ?_⟩
  ·have e1 : ((first ++ cap).map ρ).extract 0 first.size = first.map ρ := by
    apply Array.ext'
    simp only [Array.toList_extract, List.extract_eq_take_drop, Array.toList_map, Array.toList_append, List.map_append, List.drop_zero, Nat.sub_zero]
    rw [List.take_append_of_le_length (by simp), List.take_of_length_le (by simp)]
   have e2 : ((first ++ cap).map ρ).extract first.size ((first ++ cap).map ρ).size = cap.map ρ := by
    apply Array.ext'
    simp only [Array.toList_extract, List.extract_eq_take_drop, Array.toList_map, Array.toList_append, List.map_append, Array.size_map, Array.size_append]
    rw [List.drop_append_of_le_length (by simp), List.drop_of_length_le (by simp), List.nil_append, List.take_of_length_le (by simp)]
   show Value.func _ _ _ = Value.func _ _ _
   rw [e1, e2]
  ·rw [Array.toList_map]
   exact RL_map fun x hx => hops x (by simp only [Op.operands]; simpa using hx)
 ·rename_i t x i
  have hx := hops x (by simp [Op.operands])
  have hi := hops i (by simp [Op.operands])
  split at h
  ·rename_i n el b off kk k hu hex hei
   split at h
   ·rename_i sz hs
    split at h
    ·rename_i hin
     cases h
     rw [hex] at hx
     rw [hei] at hi
     simp only [V.R] at hx hi
     obtain ⟨g, hg, hx⟩ := hx
     refine fin (Instr.indexAt t (ρ x) (ρ i)) (by simp only [execOp, hop]) (.same rfl rfl pre ⟨.pointer (some ⟨g, off + k.toNat * sz, none⟩), ?_, ?_⟩)
     ·rw [hx, hi]
      simp [Instr.indexAt, asIntOf, run_underlying hu, Instr.sureAddr, run_sizeOf hs, hin, Addr.add_mid]
     ·simp only [V.R]; exact ⟨g, hg, rfl⟩
    ·cases h
   ·cases h
  ·cases h
 ·cases h
end
end Go.Proofs.YtfncaghjfgnnhaaGreatDoor

namespace Go.Proofs.YtfncaghjfgnnhaaGreatDoor
open Go.RowKit
set_option maxRecDepth 100000
def pos : List Nat → Nat → Option Nat
 | [], _ => none
 | x :: t, b => if x = b then some 0 else (pos t b).map (· + 1)
mutual
def V.ren (ρ : Nat → Option Nat) : V → V
 | .ptr b off => match ρ b with
  | some b' => .ptr b' off
  | none => .junk
 | .sl b off n f => match ρ b with
  | some b' => .sl b' off n f
  | none => .junk
 | .agg cs => .agg (V.renL ρ cs)
 | .tup cs => .tup (V.renL ρ cs)
 | .fn f cs => .fn f (V.renL ρ cs)
 | .box f cs => .box f (V.renL ρ cs)
 | .eptr b base rel => match ρ b with
  | some b' => .eptr b' base rel
  | none => .junk
 | .osl T n o cs => .osl T n o cs
 | .int k n => .int k n
 | .bool b => .bool b
 | .str s => .str s
 | .nilp => .nilp
 | .dsl n f cs => .dsl n f cs
 | .dptr cs => .dptr cs
 | .sld cs => .sld cs
 | .slo cs => .slo cs
 | .nilf => .nilf
 | .lit v => .lit v
 | .junk => .junk
def V.renL (ρ : Nat → Option Nat) : List V → List V
 | [] => []
 | c :: cs => V.ren ρ c :: V.renL ρ cs
end
def renB (ρ : Nat → Option Nat) (blk : Option Blk) : Option Blk := blk.map fun x => (V.renL ρ x.1, x.2)
def reach (hp : Hp) : Nat → List Nat → List Nat → List Nat
 | 0, _, seen => seen
 | _ + 1, [], seen => seen
 | n + 1, b :: t, seen =>
  if seen.contains b then reach hp n t seen else
  match hp[b]? with
  | some (some blk) => reach hp n (t ++ V.refsL blk.1) (seen ++ [b])
  | _ => reach hp n t seen
structure Ret where
 v : V
 hp : Hp
 wr : List Nat
abbrev CallF := FuncId → List V → Hp → Option Ret
def backTo (ids : List Nat) (top : Nat) (j : Nat) : Option Nat := if j < ids.length then ids[j]? else some (top + (j - ids.length))
def evCall (callF : CallF) (hp : Hp) (f : FuncId) (vs : List V) : Option Out :=
 let ids := reach hp 100000 (V.refsL vs) []
 match callF f (V.renL (pos ids) vs) (ids.map fun b => renB (pos ids) (hp.getD b none)) with
 | some r =>
  let back := backTo ids hp.length
  let wr := r.wr.filterMap fun j => ids[j]?
  some ⟨V.ren back r.v, (hp.zipIdx.map fun x => if wr.contains x.2 then renB back (((pos ids x.2).bind fun j => r.hp[j]?).getD none) else x.1) ++ (r.hp.drop ids.length).map (renB back), ids, wr⟩
 | none => none
def MethodIs (P : Program) (t : TypeId) (name : String) (f : FuncId) : Prop := ∀ (v : Value) (args : Array Value) (w : World), (callMethod (.iface t v) name args).run P w = .ok (.enter f (#[v] ++ args)) w
open Classical in
noncomputable def mtab (P : Program) (t : TypeId) (name : String) : Option FuncId := if h : ∃ f, MethodIs P t name f then some h.choose else none
theorem mtab_ok {P : Program} {t : TypeId} {name : String} {f : FuncId} (h : mtab P t name = some f) : MethodIs P t name f := by
 unfold mtab at h
 split at h
 ·rename_i hx; cases h; exact hx.choose_spec
 ·cases h
theorem mtab_eq {P : Program} {t : TypeId} {name : String} {f : FuncId} (h : MethodIs P t name f) : mtab P t name = some f := by
 have hx : ∃ f, MethodIs P t name f := ⟨f, h⟩
 have h2 := hx.choose_spec
 unfold mtab
 rw [dif_pos hx]
 have a := h .nilFunc #[] default
 have b := h2 .nilFunc #[] default
 rw [a] at b
 injection b with b1 b2
 injection b1 with b3 b4
 rw [← b3]
noncomputable def evOp (P : Program) (callF : CallF) (e : Operand → V) (hp : Hp) (o : Op) : Option Out :=
 match o with
 | .call { callee := .value f, args := args, argTypes := ts } =>
  match e f with
  | .fn g cap => evCall callF hp g (args.toList.map e ++ cap)
  | _ => none
 | .call { callee := .invoke x name, args := args, argTypes := _ } =>
  match e x with
  | .box (.iface t) [v] => match mtab P t name with
   | some f => evCall callF hp f (v :: args.toList.map e)
   | none => none
  | _ => none
 | o => match evPlain P e hp o with
  | some out => some out
  | none => evMore P e hp o
inductive Tr where
 | leaf
 | node (v : V) (l r : Tr)
def Tr.get : Tr → Nat → V
 | .leaf, _ => .junk
 | .node v l r, i => match Nat.beq i 0 with
  | true => v
  | false => match Nat.beq (i % 2) 1 with
   | true => l.get (i / 2)
   | false => r.get (i / 2 - 1)
def Tr.set : Tr → Nat → V → Tr
 | .leaf, _, _ => .leaf
 | .node v l r, i, x => match Nat.beq i 0 with
  | true => .node x l r
  | false => match Nat.beq (i % 2) 1 with
   | true => .node v (l.set (i / 2) x) r
   | false => .node v l (r.set (i / 2 - 1) x)
def Tr.setK {β : Type _} : Tr → Nat → V → (Tr → β) → β
 | .leaf, _, _, k => k .leaf
 | .node v l r, i, x, k => match Nat.beq i 0 with
  | true => k (.node x l r)
  | false => match Nat.beq (i % 2) 1 with
   | true => l.setK (i / 2) x fun t => k (.node v t r)
   | false => r.setK (i / 2 - 1) x fun t => k (.node v l t)
theorem Tr.setK_eq {β : Type _} : ∀ (t : Tr) (i : Nat) (x : V) (k : Tr → β), t.setK i x k = k (t.set i x)
 | .leaf, _, _, _ => rfl
 | .node v l r, i, x, k => by
  unfold Tr.setK Tr.set
  cases Nat.beq i 0
  ·cases Nat.beq (i % 2) 1
   ·simp only [Tr.setK_eq r]
   ·simp only [Tr.setK_eq l]
  ·rfl
theorem Tr.get_ne : ∀ (t : Tr) (i j : Nat) (x : V), i ≠ j → (t.set i x).get j = t.get j
 | .leaf, _, _, _, _ => rfl
 | .node v l r, i, j, x, h => by
  have e : ∀ n m : Nat, Nat.beq n m = decide (n = m) := fun n m => by rw [Bool.eq_iff_iff]; simp
  unfold Tr.set
  by_cases hi : i = 0
  ·have hj : j ≠ 0 := by omega
   simp [e, hi, Tr.get, hj]
  ·by_cases hi2 : i % 2 = 1
   ·simp only [e, hi, hi2, decide_true, decide_false]
    unfold Tr.get
    by_cases hj : j = 0
    ·simp [hj, e]
    ·by_cases hj2 : j % 2 = 1
     ·simp only [e, hj, hj2, decide_true, decide_false]
      exact Tr.get_ne l _ _ x (by omega)
     ·simp [e, hj, hj2]
   ·simp only [e, hi, hi2, decide_false]
    unfold Tr.get
    by_cases hj : j = 0
    ·simp [hj, e]
    ·by_cases hj2 : j % 2 = 1
     ·simp [e, hj, hj2]
     ·simp only [e, hj, hj2, decide_false]
      exact Tr.get_ne r _ _ x (by omega)
theorem Tr.get_eq : ∀ (t : Tr) (i : Nat) (x : V), (t.set i x).get i = x ∨ (t.set i x).get i = .junk
 | .leaf, _, _ => .inr rfl
 | .node v l r, i, x => by
  unfold Tr.set
  cases h0 : Nat.beq i 0
  ·cases h1 : Nat.beq (i % 2) 1
   ·simp only [Tr.get, h0, h1]; exact Tr.get_eq r _ x
   ·simp only [Tr.get, h0, h1]; exact Tr.get_eq l _ x
  ·left; simp only [Tr.get, h0]
structure Tm where
 n : Nat
 t : Tr
def Tm.get (m : Tm) (i : Nat) : V := match Nat.blt i m.n with
 | true => m.t.get i
 | false => .junk
def Tm.put (m : Tm) (i : Nat) (x : V) : Tm := ⟨m.n, m.t.set i x⟩
theorem Tm.get_ne (m : Tm) {i j : Nat} (x : V) (h : i ≠ j) : (m.put i x).get j = m.get j := by
 unfold Tm.get Tm.put
 simp only [Tr.get_ne m.t i j x h]
theorem Tm.get_eq (m : Tm) (i : Nat) (x : V) : (m.put i x).get i = x ∧ i < m.n ∨ (m.put i x).get i = .junk := by
 unfold Tm.get Tm.put
 cases h : Nat.blt i m.n
 ·exact .inr rfl
 ·have : i < m.n := by simpa using h
  rcases Tr.get_eq m.t i x with h | h
  ·exact .inl ⟨h, this⟩
  ·exact .inr h
def Tr.mk0 : Nat → Tr
 | 0 => .leaf
 | k + 1 => .node .junk (Tr.mk0 k) (Tr.mk0 k)
theorem Tr.mk0_get : ∀ (k i : Nat), (Tr.mk0 k).get i = .junk
 | 0, _ => rfl
 | k + 1, i => by
  unfold Tr.mk0 Tr.get
  cases Nat.beq i 0
  ·cases Nat.beq (i % 2) 1
   ·exact Tr.mk0_get k _
   ·exact Tr.mk0_get k _
  ·rfl
def Tm.fill : List V → Nat → Tm → Tm
 | [], _, m => m
 | v :: vs, i, m => Tm.fill vs (i + 1) (m.put i v)
theorem Tm.fill_get : ∀ (vs : List V) (i : Nat) (m : Tm) (t : Nat), ((Tm.fill vs i m).get t = m.get t) ∨ ((Tm.fill vs i m).get t = .junk) ∨ (∃ k, t = i + k ∧ vs[k]? = some ((Tm.fill vs i m).get t))
 | [], _, _, _ => .inl rfl
 | v :: vs, i, m, t => by
  unfold Tm.fill
  rcases Tm.fill_get vs (i + 1) (m.put i v) t with h | h | ⟨k, hk, h⟩
  ·by_cases e : i = t
   ·subst e
    rcases m.get_eq i v with h2 | h2
    ·right; right; exact ⟨0, rfl, by rw [h, h2.1]; rfl⟩
    ·right; left; rw [h, h2]
   ·left; rw [h, m.get_ne v e]
  ·exact .inr (.inl h)
  ·exact .inr (.inr ⟨k + 1, by omega, by simpa using h⟩)
theorem Tm.fill_n : ∀ (vs : List V) (i : Nat) (m : Tm), (Tm.fill vs i m).n = m.n
 | [], _, _ => rfl
 | _ :: vs, i, m => by unfold Tm.fill; rw [Tm.fill_n vs]; rfl
def Tm.start (n : Nat) (vs : List V) : Tm := Tm.fill vs 0 ⟨n, Tr.mk0 11⟩
theorem Tm.start_get (n : Nat) (vs : List V) (t : Nat) : (Tm.start n vs).get t = .junk ∨ vs[t]? = some ((Tm.start n vs).get t) := by
 have h0 : (⟨n, Tr.mk0 11⟩ : Tm).get t = .junk := by
  unfold Tm.get
  cases Nat.blt t n
  ·rfl
  ·exact Tr.mk0_get _ _
 rcases Tm.fill_get vs 0 ⟨n, Tr.mk0 11⟩ t with h | h | ⟨k, hk, h⟩
 ·left; unfold Tm.start; rw [h, h0]
 ·exact .inl h
 ·right; rw [show t = k by omega] at h ⊢; exact h
def evalV (tm : Tm) : Operand → V
 | .tmp t => tm.get t
 | .const v => ofValue v
 | .func f => .fn f []
 | .global _ => .junk
structure St where
 tm : Tm
 hp : Hp
 wr : List Nat
def wantedV (ops : Array Oper) (tm : Tm) (o : Oper) : Option Bool :=
 match o.guard with
 | none => some true
 | some (j, want) =>
  match (ops[j]?).bind (·.dst) with
  | some d => match tm.get d with
   | .bool b => some (b == want)
   | .lit (.tuple _) => some false
   | _ => none
  | none => none
def putV (tm : Tm) (d : Option Tmp) (v : V) : Tm :=
 match d with
 | some d => tm.put d v
 | none => tm
def putK {β : Type _} (tm : Tm) (d : Option Tmp) (v : V) (k : Tm → β) : β :=
 match d with
 | some d => tm.t.setK d v fun t => k ⟨tm.n, t⟩
 | none => k tm
theorem putK_eq {β : Type _} (tm : Tm) (d : Option Tmp) (v : V) (k : Tm → β) : putK tm d v k = k (putV tm d v) := by
 cases d with
 | none => rfl
 | some d =>
  show (tm.t.setK d v fun t => k ⟨tm.n, t⟩) = _
  rw [Tr.setK_eq]
  rfl
def forceV {β : Type _} (v : V) (k : V → β) : β :=
 match v with
 | .int a n => k (.int a n)
 | .bool b => k (.bool b)
 | .str s => k (.str s)
 | .nilp => k .nilp
 | .ptr b o => k (.ptr b o)
 | .sl b o n f => k (.sl b o n f)
 | .dsl n f cs => k (.dsl n f cs)
 | .dptr cs => k (.dptr cs)
 | .sld cs => k (.sld cs)
 | .slo cs => k (.slo cs)
 | .agg cs => k (.agg cs)
 | .tup cs => k (.tup cs)
 | .fn f cs => k (.fn f cs)
 | .box f cs => k (.box f cs)
 | .eptr b o r => k (.eptr b o r)
 | .osl T n o cs => k (.osl T n o cs)
 | .nilf => k .nilf
 | .lit u => k (.lit u)
 | .junk => k .junk
theorem forceV_eq {β : Type _} (v : V) (k : V → β) : forceV v k = k v := by cases v <;> rfl
def forceW (new old : List Nat) : List Nat :=
 match new with
 | [] => old
 | x :: xs => old ++ x :: xs
theorem forceW_eq (new old : List Nat) : forceW new old = old ++ new := by cases new <;> simp [forceW]
inductive Ex where
 | normal
 | exit (id : Nat)
 | ret
end Go.Proofs.YtfncaghjfgnnhaaGreatDoor

namespace Go.Proofs.YtfncaghjfgnnhaaGreatDoor
open Go.RowKit
set_option maxRecDepth 100000
section
variable {P : Program} {I : Nat → Prop} {μ μ' : Mu} {w w' : World} {hp : Hp} {out : Out}
theorem pos_spec : ∀ {ids : List Nat} {b j : Nat}, pos ids b = some j → ids[j]? = some b
 | [], _, _, h => by cases h
 | x :: t, b, j, h => by
  unfold pos at h
  split at h
  ·rename_i e; cases h; simp [e]
  ·obtain ⟨k, hk, rfl⟩ := Option.map_eq_some_iff.1 h
   simpa using pos_spec hk
theorem pos_of : ∀ {ids : List Nat} {b j : Nat}, ids.Nodup → ids[j]? = some b → pos ids b = some j
 | [], _, _, _, h => by simp at h
 | x :: t, b, j, hn, h => by
  unfold pos
  rw [List.nodup_cons] at hn
  cases j with
  | zero => simp at h; rw [if_pos h]
  | succ j =>
   simp at h
   have hb : b ∈ t := List.mem_of_getElem? h
   rw [if_neg (by rintro rfl; exact hn.1 hb), pos_of hn.2 h]
   rfl
mutual
theorem ren_sound {ρ : Nat → Option Nat} (h : ∀ b b' g, ρ b = some b' → μ b = some g → μ' b' = some g) : ∀ (c : V) (v : Value), V.R P I μ w c v → V.R P I μ' w (V.ren ρ c) v
 | .int _ _, _, k => by simpa [V.R, V.ren] using k
 | .bool _, _, k => by simpa [V.R, V.ren] using k
 | .str _, _, k => by simpa [V.R, V.ren] using k
 | .nilp, _, k => by simpa [V.R, V.ren] using k
 | .ptr b off, _, k => by
  simp only [V.ren]
  split
  ·rename_i b' hb
   simp only [V.R] at k ⊢
   obtain ⟨g, hg, k⟩ := k
   exact ⟨g, h _ _ _ hb hg, k⟩
  ·simp [V.R]
 | .sl b off n f, _, k => by
  simp only [V.ren]
  split
  ·rename_i b' hb
   simp only [V.R] at k ⊢
   rcases k with ⟨g, cap, e, N, i, hg, k⟩ | k
   ·exact .inl ⟨g, cap, e, N, i, h _ _ _ hb hg, k⟩
   ·exact .inr k
  ·simp [V.R]
 | .eptr b base rel, _, k => by
  simp only [V.ren]
  split
  ·rename_i b' hb
   simp only [V.R] at k ⊢
   obtain ⟨g, hg, k⟩ := k
   exact ⟨g, h _ _ _ hb hg, k⟩
  ·simp [V.R]
 | .osl _ _ _ _, _, k => by simp [V.R] at k
 | .dsl _ _ _, _, k => by simpa [V.R, V.ren] using k
 | .dptr _, _, k => by simpa [V.R, V.ren] using k
 | .sld _, _, k => by simp [V.R] at k
 | .slo _, _, k => by simp [V.R] at k
 | .agg cs, _, k => by
  simp only [V.R, V.ren] at k ⊢
  obtain ⟨vs, h1, h2⟩ := k
  exact ⟨vs, h1, renL_sound h cs _ h2⟩
 | .tup cs, _, k => by
  simp only [V.R, V.ren] at k ⊢
  obtain ⟨vs, h1, h2⟩ := k
  exact ⟨vs, h1, renL_sound h cs _ h2⟩
 | .fn _ cs, _, k => by
  simp only [V.R, V.ren] at k ⊢
  obtain ⟨vs, h1, h2⟩ := k
  exact ⟨vs, h1, renL_sound h cs _ h2⟩
 | .box _ cs, _, k => by
  simp only [V.R, V.ren] at k ⊢
  obtain ⟨vs, h1, h2⟩ := k
  exact ⟨vs, h1, renL_sound h cs _ h2⟩
 | .nilf, _, k => by simpa [V.R, V.ren] using k
 | .lit _, _, k => by simpa [V.R, V.ren] using k
 | .junk, _, _ => by simp [V.R, V.ren]
theorem renL_sound {ρ : Nat → Option Nat} (h : ∀ b b' g, ρ b = some b' → μ b = some g → μ' b' = some g) : ∀ (cs : List V) (vs : List Value), V.RL P I μ w cs vs → V.RL P I μ' w (V.renL ρ cs) vs
 | [], _, k => by simpa [V.RL, V.renL] using k
 | c :: cs, _, k => by
  simp only [V.RL, V.renL] at k ⊢
  obtain ⟨u, us, h1, h2, h3⟩ := k
  exact ⟨u, us, h1, ren_sound h c u h2, renL_sound h cs us h3⟩
end
theorem renL_length (ρ : Nat → Option Nat) : ∀ cs : List V, (V.renL ρ cs).length = cs.length
 | [] => rfl
 | _ :: cs => by simp [V.renL, renL_length ρ cs]
theorem ren_noSeal {ρ : Nat → Option Nat} {x : V} (hx : x.seals = none) : (V.ren ρ x).seals = none := by
 cases x <;> simp only [V.ren] <;> first | rfl | (simp [V.seals] at hx; done) | (split <;> rfl)
theorem ren_seal (ρ : Nat → Option Nat) (o : Bool) (c : List V) : V.ren ρ (mkS o c) = mkS o c := by cases o <;> rfl
theorem ren_isO (ρ : Nat → Option Nat) (x : V) : (V.ren ρ x).isO = x.isO := by
 cases x <;> simp only [V.ren] <;> first | rfl | (split <;> rfl)
theorem ren_O (ρ : Nat → Option Nat) {x : V} (h : x.isO = true) : V.ren ρ x = x := by
 cases x <;> first | rfl | (simp [V.isO] at h)
theorem OX.ren {ρ : Nat → Option Nat} (h : ∀ b b' g, ρ b = some b' → μ b = some g → μ' b' = some g) {F : List Nat} {x : V} {u : Value} (k : OX P I μ w F x u) : OX P I μ' w F (V.ren ρ x) u := by
 unfold OX at k ⊢
 rw [ren_isO]
 cases hx : x.isO with
 | true => rw [hx] at k; rw [ren_O ρ hx]; exact k
 | false => rw [hx] at k; exact ⟨k.1, ren_sound h _ _ k.2⟩
theorem CR.ren {ρ : Nat → Option Nat} (h : ∀ b b' g, ρ b = some b' → μ b = some g → μ' b' = some g) : ∀ {l : List V} {F : List Nat} {vs : List Value}, CR P I μ w F l vs → CR P I μ' w F (V.renL ρ l) vs
 | [], F, _, k => by simp only [V.renL]; exact CR.nil_iff.2 (CR.nil_iff.1 k)
 | x :: t, F, vs, k => by
  simp only [V.renL]
  rcases seal_or x with ⟨o, c, rfl⟩ | hx
  ·obtain ⟨us, vs', F1, F2, rfl, rfl, h1, h2⟩ := CR.sealO_iff.1 k
   rw [ren_seal]
   exact CR.sealO_iff.2 ⟨us, vs', F1, F2, rfl, rfl, h1, CR.ren h h2⟩
  ·obtain ⟨u, us, F1, F2, rfl, rfl, h1, h2⟩ := (CR.cons_iff hx).1 k
   exact (CR.cons_iff (ren_noSeal hx)).2 ⟨u, us, F1, F2, rfl, rfl, h1.ren h, CR.ren h h2⟩
theorem flat_ren_length (ρ : Nat → Option Nat) : ∀ l : List V, (flat (V.renL ρ l)).length = (flat l).length
 | [] => rfl
 | x :: t => by
  simp only [V.renL]
  rcases seal_or x with ⟨o, c, rfl⟩ | hx
  ·simp only [ren_seal, flat_sealO, List.length_append, flat_ren_length ρ t]
  ·rw [flat_cons hx, flat_cons (ren_noSeal hx), List.length_cons, List.length_cons, flat_ren_length ρ t]
theorem Holds.ren {ρ : Nat → Option Nat} {b b' : Nat} {blk : Blk} (hh : Holds P I μ w b blk) (h : ∀ b b' g, ρ b = some b' → μ b = some g → μ' b' = some g) (hb : ∀ g, μ b = some g → μ' b' = some g) (h0 : μ b = none → μ' b' = none) (hf : μ'.ft b' = μ.ft b) : Holds P I μ' w b' (V.renL ρ blk.1, blk.2) := by
 rcases hh with ⟨g, cs, fr, h1, h2, h3, h4, ⟨h5, h6⟩, h7, h8⟩ | ⟨h1, h3⟩ | ⟨g, es, ck, c, h1, h2, h3, rfl, h4, h5⟩
 ·refine .inl ⟨g, cs, fr, hb g h1, h2, h3, h4, ⟨?_, ?_⟩, by rw [hf]; exact h7, by rw [hf]; exact h8⟩
  ·show (flat (V.renL ρ blk.1)).length ≤ _
   rw [flat_ren_length]; exact h5
  ·show CR P I μ' w (μ'.ft b') (V.renL ρ blk.1) (List.take (flat (V.renL ρ blk.1)).length _)
   rw [flat_ren_length, hf]; exact h6.ren h
 ·exact .inr (.inl ⟨h0 h1, by rw [hf]; exact h3⟩)
 ·exact .inr (.inr ⟨g, es, ck, c, hb g h1, h2, h3, by simp only [V.renL, V.ren], h4, by rw [hf]; exact h5⟩)
theorem renB_some {ρ : Nat → Option Nat} {x : Option Blk} {blk : Blk} (h : renB ρ x = some blk) : ∃ blk0, x = some blk0 ∧ blk = (V.renL ρ blk0.1, blk0.2) := by
 unfold renB at h
 obtain ⟨b, hb, rfl⟩ := Option.map_eq_some_iff.1 h
 exact ⟨b, hb, rfl⟩
def Alive (hp : Hp) (b : Nat) : Prop := ∃ blk, hp[b]? = some (some blk)
theorem reach_good (hp : Hp) : ∀ (n : Nat) (todo seen : List Nat), seen.Nodup → (∀ b ∈ seen, Alive hp b) → (reach hp n todo seen).Nodup ∧ (∀ b ∈ reach hp n todo seen, Alive hp b)
 | 0, _, seen, h1, h2 => ⟨h1, h2⟩
 | n + 1, [], seen, h1, h2 => ⟨h1, h2⟩
 | n + 1, b :: t, seen, h1, h2 => by
  unfold reach
  split
  ·exact reach_good hp n t seen h1 h2
  ·rename_i hc
   have hb : b ∉ seen := by simpa using hc
   split
   ·rename_i blk hblk
    refine reach_good hp n _ _ ?_ ?_
    ·rw [List.nodup_append]
     refine ⟨h1, by simp, fun a ha c hc e => ?_⟩
     simp at hc; subst hc; subst e; exact hb ha
    ·intro c hc
     rcases List.mem_append.1 hc with hc | hc
     ·exact h2 c hc
     ·simp at hc; subst hc; exact ⟨blk, hblk⟩
   ·exact reach_good hp n t seen h1 h2
structure FnTidy (hp : Hp) (r : Ret) : Prop where
 len : hp.length ≤ r.hp.length
 frame : ∀ b, b < hp.length → b ∉ r.wr → r.hp[b]? = hp[b]?
 wrb : ∀ b ∈ r.wr, b < hp.length
 alive : ∀ b, b < hp.length → Alive r.hp b → Alive hp b
def FnOK (P : Program) (f : FuncId) (vs : List V) (hp : Hp) (r : Ret) : Prop :=
 FnTidy hp r ∧ ∀ (I : Nat → Prop) (w : World) (μ : Mu) (vals : Array Value), V.RL P I μ w vs vals.toList → Pre P I μ w hp (List.range hp.length) r.hp.length → (∀ b g, μ b = some g → b < hp.length) →
  Calls P f vals w fun e w' => ∃ val μ' I', e = .returned val ∧ V.R P I' μ' w' r.v val ∧ Good P I I' μ μ' w w' hp r.hp (List.range hp.length) r.wr
def CallOK (P : Program) (callF : CallF) : Prop := ∀ f vs hp r, callF f vs hp = some r → FnOK P f vs hp r
theorem zipIdx_at {α β : Type} (l : List α) (f : α × Nat → β) (b : Nat) : ((l.zipIdx).map f)[b]? = (l[b]?).map fun x => f (x, b) := by
 simp [List.getElem?_map, List.getElem?_zipIdx]
 cases l[b]? <;> simp
theorem call_sound {callF : CallF} (hc : CallOK P callF) {f : FuncId} {vs : List V} {vals : Array Value} (h : evCall callF hp f vs = some out) (hv : V.RL P I μ w vs vals.toList) (pre : Pre P I μ w hp out.acc out.hp.length) :
  Calls P f vals w fun e w' => ∃ val μ' I', e = .returned val ∧ V.R P I' μ' w' out.v val ∧ Good P I I' μ μ' w w' hp out.hp out.acc out.wr := by
 unfold evCall at h
 simp only at h
 generalize hids : reach hp 100000 (V.refsL vs) [] = ids at h
 obtain ⟨hnd, hal⟩ := reach_good hp 100000 (V.refsL vs) [] (by simp) (by simp)
 rw [hids] at hnd hal
 split at h
 case h_2 => cases h
 case h_1 r hr =>
 cases h
 obtain ⟨ht, hok⟩ := hc _ _ _ _ hr
 generalize hsub : (ids.map fun b => renB (pos ids) (hp.getD b none)) = sub at hr ht hok
 have hsl : sub.length = ids.length := by rw [← hsub]; simp
 have hlt : ∀ b ∈ ids, b < hp.length := fun b hb => by obtain ⟨blk, h⟩ := hal b hb; exact at_lt h
 let μc : Mu := ⟨fun j => match ids[j]? with
  | some b => μ b
  | none => none, fun j => match ids[j]? with
  | some b => μ.ft b
  | none => []⟩
 have hμc : ∀ (j b : Nat), ids[j]? = some b → μc j = μ b := by intro j b h; simp [μc, h]
 have hμf : ∀ (j b : Nat), ids[j]? = some b → μc.ft j = μ.ft b := by intro j b h; simp [μc, h]
 have hμo : ∀ (j b : Nat), ids[j]? = some b → ∀ k, μc.own j k ↔ μ.own b k := by intro j b h k; simp [Mu.own, hμc j b h, hμf j b h]
 have hμn : ∀ j, ids.length ≤ j → μc j = none := by intro j h; simp [μc, List.getElem?_eq_none h]
 have hρ : ∀ b b' g, pos ids b = some b' → μ b = some g → μc b' = some g := by
  intro b b' g hb hg; rw [hμc b' b (pos_spec hb)]; exact hg
 have hsubinv : ∀ (j : Nat) (blk : Blk), sub[j]? = some (some blk) → ∃ b blk0, ids[j]? = some b ∧ hp[b]? = some (some blk0) ∧ blk = (V.renL (pos ids) blk0.1, blk0.2) := by
  intro j blk hj
  rw [← hsub, List.getElem?_map] at hj
  obtain ⟨b, hb, hj⟩ := Option.map_eq_some_iff.1 hj
  obtain ⟨blk0, hb0⟩ := hal b (List.mem_of_getElem? hb)
  simp only [List.getD_eq_getElem?_getD, hb0, Option.getD_some, renB, Option.map_some] at hj
  exact ⟨b, blk0, hb, hb0, (by cases hj; rfl)⟩
 have hpre : Pre P I μc w sub (List.range sub.length) r.hp.length := by
  refine ⟨pre.ilt, fun j hj blk hblk => ?_, fun j hj k hk b1 b2 g hne h1 h2 g1 g2 => ?_, fun j hj _ => hμn j (by omega)⟩
  ·obtain ⟨b, blk0, hb, hb0, rfl⟩ := hsubinv j blk hblk
   exact (pre.holds b (List.mem_of_getElem? hb) blk0 hb0).ren hρ (fun g hg => by rw [hμc j b hb]; exact hg) (fun h => by rw [hμc j b hb]; exact h) (hμf j b hb)
  ·obtain ⟨b, c0, hb, hb0, _⟩ := hsubinv j b1 h1
   obtain ⟨c, c1, hc, hc0, _⟩ := hsubinv k b2 h2
   refine pre.inj b (List.mem_of_getElem? hb) c (List.mem_of_getElem? hc) _ _ g (fun e => hne ?_) hb0 hc0 ((hμo j b hb g).1 g1) ((hμo k c hc g).1 g2)
   subst e
   have h1 := pos_of hnd hb
   rw [pos_of hnd hc] at h1
   cases h1; rfl
 have hdomc : ∀ b g, μc b = some g → b < sub.length := by
  intro j g hg
  rcases Nat.lt_or_ge j sub.length with h | h
  ·exact h
  ·rw [hμn j (by omega)] at hg; cases hg
 refine (hok I w μc vals (renL_sound hρ _ _ hv) hpre hdomc).mono ?_
 rintro e w' ⟨val, μc', I', rfl, hR, hG⟩
 have htop : (hp.length + (r.hp.length - ids.length)) = ((hp.zipIdx.map fun x => if (r.wr.filterMap fun j => ids[j]?).contains x.2 then renB (backTo ids hp.length) (((pos ids x.2).bind fun j => r.hp[j]?).getD none) else x.1) ++ (r.hp.drop ids.length).map (renB (backTo ids hp.length))).length := by simp
 let μ' : Mu := ⟨fun b => if b < hp.length then μ b else if b < hp.length + (r.hp.length - ids.length) then μc' (ids.length + (b - hp.length)) else μ b,
  fun b => if b < hp.length then match pos ids b with
   | some j => μc'.ft j
   | none => μ.ft b
  else if b < hp.length + (r.hp.length - ids.length) then μc'.ft (ids.length + (b - hp.length)) else μ.ft b⟩
 have hμ'o : ∀ b, b < hp.length → μ' b = μ b := fun b hb => by simp [μ', hb]
 have hlenr : ids.length ≤ r.hp.length := by have := ht.len; omega
 have hμ'n : ∀ k, ids.length + k < r.hp.length → μ' (hp.length + k) = μc' (ids.length + k) ∧ μ'.ft (hp.length + k) = μc'.ft (ids.length + k) := fun k hk => by
  have h1 : ¬ hp.length + k < hp.length := by omega
  have h2 : hp.length + k < hp.length + (r.hp.length - ids.length) := by omega
  simp only [μ', h1, h2, if_true, if_false]
  rw [show ids.length + (hp.length + k - hp.length) = ids.length + k by omega]
  exact ⟨rfl, rfl⟩
 have hftj : ∀ (j b : Nat), ids[j]? = some b → μ'.ft b = μc'.ft j := by
  intro j b hj
  have hb := hlt b (List.mem_of_getElem? hj)
  simp only [μ', hb, if_true, pos_of hnd hj]
 have hftn : ∀ b, b < hp.length → pos ids b = none → μ'.ft b = μ.ft b := by
  intro b hb hp
  simp only [μ', hb, if_true, hp]
 have hdomc' : ∀ j g, μc' j = some g → j < r.hp.length := by
  intro j g hg
  rcases hG.dom j g hg with h | ⟨_, h⟩
  ·have := hdomc j g h; have := ht.len; omega
  ·exact h
 have hold : ∀ (j b : Nat), ids[j]? = some b → ∀ g, μc' j = some g → μ b = some g := by
  intro j b hj g hg
  have hjl : j < ids.length := (List.getElem?_eq_some_iff.1 hj).1
  rcases hG.dom j g hg with h | ⟨h, _⟩
  ·rwa [hμc j b hj] at h
  ·omega
 have hle : MuLe μ μ' := by
  intro b g hb
  rcases Nat.lt_or_ge b hp.length with h | h
  ·rw [hμ'o b h]; exact hb
  ·rcases Nat.lt_or_ge b (hp.length + (r.hp.length - ids.length)) with h2 | h2
   ·rw [pre.fresh b h (by rw [← htop]; exact h2)] at hb; cases hb
   ·have h1 : ¬ b < hp.length := by omega
    have h3 : ¬ b < hp.length + (r.hp.length - ids.length) := by omega
    simp only [μ', h1, h3, if_false]; exact hb
 have hback : ∀ j b' g, backTo ids hp.length j = some b' → μc' j = some g → μ' b' = some g := by
  intro j b' g hj hg
  unfold backTo at hj
  split at hj
  ·have := hold j b' hj g hg
   rw [hμ'o b' (hlt b' (List.mem_of_getElem? hj))]; exact this
  ·rename_i hjl
   cases hj
   have := hdomc' j g hg
   rw [(hμ'n _ (by omega)).1]
   rw [show ids.length + (j - ids.length) = j by omega]; exact hg
 have hwr : ∀ j, j ∈ r.wr → ∃ b, ids[j]? = some b ∧ b ∈ r.wr.filterMap (fun j => ids[j]?) ∧ (∃ blk, hp[b]? = some (some blk)) ∧ ∀ k, μc.own j k ↔ μ.own b k := by
  intro j hj
  have hjl := ht.wrb j hj
  have hjb : ids[j]? = some (ids[j]'(by omega)) := List.getElem?_eq_getElem (by omega)
  generalize ids[j]'(by omega) = b at hjb
  exact ⟨b, hjb, List.mem_filterMap.2 ⟨j, hj, hjb⟩, hal b (List.mem_of_getElem? hjb), hμo j b hjb⟩
 have hX : Evo I w w' (fun k => ∃ b ∈ r.wr.filterMap (fun j => ids[j]?), μ.own b k) := hG.evo.mono fun k hk => by
  obtain ⟨j, hj, hk⟩ := hk
  obtain ⟨b, _, hbw, _, hbo⟩ := hwr j hj
  exact ⟨b, hbw, (hbo k).1 hk⟩
 generalize hhp' : ((hp.zipIdx.map fun x => if (r.wr.filterMap fun j => ids[j]?).contains x.2 then renB (backTo ids hp.length) (((pos ids x.2).bind fun j => r.hp[j]?).getD none) else x.1) ++ (r.hp.drop ids.length).map (renB (backTo ids hp.length))) = hp' at htop pre ⊢
 have hA : ∀ b blk, hp'[b]? = some (some blk) → (b < hp.length ∧ b ∉ r.wr.filterMap (fun j => ids[j]?) ∧ hp[b]? = some (some blk)) ∨
   (∃ j blk0, r.hp[j]? = some (some blk0) ∧ blk = (V.renL (backTo ids hp.length) blk0.1, blk0.2) ∧ (∀ g, μ' b = some g ↔ μc' j = some g) ∧ μ'.ft b = μc'.ft j ∧ ((b < hp.length ∧ ids[j]? = some b ∧ j ∈ r.wr) ∨ (hp.length ≤ b ∧ j = ids.length + (b - hp.length)))) := by
  intro b blk hb
  rw [← hhp', List.getElem?_append] at hb
  simp only [List.length_map, List.length_zipIdx] at hb
  split at hb
  ·rename_i hbl
   rw [zipIdx_at] at hb
   obtain ⟨x, hx, hb⟩ := Option.map_eq_some_iff.1 hb
   simp only at hb
   split at hb
   ·rename_i hw
    have hw' : b ∈ r.wr.filterMap fun j => ids[j]? := by simpa using hw
    obtain ⟨j, hj, hjb⟩ := List.mem_filterMap.1 hw'
    rw [pos_of hnd hjb] at hb
    obtain ⟨blk0, h0, rfl⟩ := renB_some hb
    have h1 : r.hp[j]? = some (some blk0) := by
     simp only [Option.bind_some] at h0
     cases hrj : r.hp[j]? with
     | none => rw [hrj] at h0; cases h0
     | some y => rw [hrj] at h0; simp at h0; rw [h0]
    refine .inr ⟨j, blk0, h1, rfl, fun g => ⟨fun hg => ?_, fun hg => ?_⟩, hftj j b hjb, .inl ⟨hbl, hjb, hj⟩⟩
    ·rw [hμ'o b hbl, ← hμc j b hjb] at hg; exact hG.le j g hg
    ·rw [hμ'o b hbl]; exact hold j b hjb g hg
   ·rename_i hw
    have hw' : b ∉ r.wr.filterMap fun j => ids[j]? := by simpa using hw
    exact .inl ⟨hbl, hw', by rw [hx, hb]⟩
  ·rename_i hbl
   rw [List.getElem?_map, List.getElem?_drop] at hb
   obtain ⟨x, hx, hb⟩ := Option.map_eq_some_iff.1 hb
   obtain ⟨blk0, rfl, rfl⟩ := renB_some hb
   have hlt' := (List.getElem?_eq_some_iff.1 hx).1
   have e := hμ'n (b - hp.length) hlt'
   rw [show hp.length + (b - hp.length) = b by omega] at e
   exact .inr ⟨_, blk0, hx, rfl, fun g => by rw [e.1], e.2, .inr ⟨by omega, rfl⟩⟩
 have hjr : ∀ j, j < ids.length → j ∈ List.range sub.length := fun j hj => by simp; omega
 have hin : ∀ (b j : Nat), ((b < hp.length ∧ ids[j]? = some b ∧ j ∈ r.wr) ∨ (hp.length ≤ b ∧ j = ids.length + (b - hp.length))) → (j ∈ List.range sub.length ∨ sub.length ≤ j) := by
  rintro b j (⟨_, h, _⟩ | ⟨_, h⟩)
  ·exact .inl (hjr j (List.getElem?_eq_some_iff.1 h).1)
  ·exact .inr (by omega)
 have hin2 : ∀ (b j : Nat), ((b < hp.length ∧ ids[j]? = some b ∧ j ∈ r.wr) ∨ (hp.length ≤ b ∧ j = ids.length + (b - hp.length))) → (sub.length ≤ j ∨ j ∈ r.wr) := by
  rintro b j (⟨_, _, h⟩ | ⟨_, h⟩)
  ·exact .inr h
  ·exact .inl (by omega)
 have hown : ∀ (b j k : Nat), (∀ g, μ' b = some g ↔ μc' j = some g) → μ'.ft b = μc'.ft j → (μ'.own b k ↔ μc'.own j k) := by
  intro b j k h1 h2; simp only [Mu.own, h1, h2]
 have hftu : ∀ b, b < hp.length → b ∉ r.wr.filterMap (fun j => ids[j]?) → μ'.ft b = μ.ft b := by
  intro b hb hbw
  cases hp : pos ids b with
  | none => exact hftn b hb hp
  | some j =>
   have hj := pos_spec hp
   have hjl : j < ids.length := (List.getElem?_eq_some_iff.1 hj).1
   rw [hftj j b hj, hG.ftd j (fun hjw => hbw (List.mem_filterMap.2 ⟨j, hjw, hj⟩)) (by omega), hμf j b hj]
 have hownu : ∀ b k, b < hp.length → b ∉ r.wr.filterMap (fun j => ids[j]?) → μ'.own b k → μ.own b k := by
  intro b k hb hbw hk
  rcases hk with hk | hk
  ·rw [hμ'o b hb] at hk; exact .inl hk
  ·rw [hftu b hb hbw] at hk; exact .inr hk
 have hnimm : ∀ b blk g, b ∈ ids → b ∉ r.wr.filterMap (fun j => ids[j]?) → hp[b]? = some (some blk) → μ.own b g → ¬ I' g := by
  intro b blk g hbi hbw hb0 hg hI
  have hh := pre.holds b hbi blk hb0
  rcases hG.igrow g hI with h | ⟨h, _⟩ | ⟨c, hcw, hcg, _⟩
  ·exact hh.nimm hg h
  ·have := hh.lt hg; omega
  ·obtain ⟨d, hdj, hdw, ⟨_, hda⟩, hdo⟩ := hwr c hcw
   exact pre.inj b hbi d (List.mem_of_getElem? hdj) _ _ g (by rintro rfl; exact hbw hdw) hb0 hda hg ((hdo g).1 hcg)
 refine ⟨val, μ', I', rfl, ren_sound hback _ _ hR, ⟨hG.isub, fun k hk => ?_, hX, hle, fun b g hb => ?_, fun b hbw hbn => ?_, fun b hb blk hblk => ?_, fun b hb blk hblk g hg => ?_, fun b c b1 b2 g hne hb hc h1 h2 g1 g2 => ?_⟩⟩
 ·rcases hG.igrow k hk with h | h | ⟨c, hcw, hcg, _⟩
  ·exact .inl h
  ·exact .inr (.inl h)
  ·obtain ⟨d, _, hdw, hda, hdo⟩ := hwr c hcw
   exact .inr (.inr ⟨d, hdw, (hdo k).1 hcg, hda⟩)
 ·rcases Nat.lt_or_ge b hp.length with h | h
  ·rw [hμ'o b h] at hb; exact .inl hb
  ·rcases Nat.lt_or_ge b (hp.length + (r.hp.length - ids.length)) with h2 | h2
   ·exact .inr ⟨h, by rw [← htop]; exact h2⟩
   ·have h1 : ¬ b < hp.length := by omega
    have h3 : ¬ b < hp.length + (r.hp.length - ids.length) := by omega
    simp only [μ', h1, h3, if_false] at hb; exact .inl hb
 ·rcases Nat.lt_or_ge b hp.length with h | h
  ·exact hftu b h hbw
  ·have h1 : ¬ b < hp.length := by omega
   have h3 : ¬ b < hp.length + (r.hp.length - ids.length) := by rw [htop]; intro h4; exact hbn ⟨h, h4⟩
   simp only [μ', h1, h3, if_false]
 ·rcases hA b blk hblk with ⟨hbl, hnw, h0⟩ | ⟨j, blk0, hj, rfl, hm, hf, hw⟩
  ·have hbi : b ∈ ids := by rcases hb with hb | hb; exact hb; omega
   refine (pre.holds b hbi blk h0).keep hX hG.isub hle (fun h => by rw [hμ'o b hbl]; exact h) (hftu b hbl hnw) (fun g hg hx => ?_) (fun g hg => hnimm b blk g hbi hnw h0 hg)
   obtain ⟨c, hc, hcg⟩ := hx
   obtain ⟨j, _, hjc⟩ := List.mem_filterMap.1 hc
   have hci : c ∈ ids := List.mem_of_getElem? hjc
   obtain ⟨blk', hc'⟩ := hal c hci
   exact pre.inj b hbi c hci _ _ g (by rintro rfl; exact hnw hc) h0 hc' hg hcg
  ·exact (hG.holds j (hin b j hw) blk0 hj).ren hback (fun g hg => (hm g).2 hg) (fun h => by
    cases hb' : μ' b with
    | none => rfl
    | some g => rw [(hm g).1 hb'] at h; cases h) hf
 ·rcases hA b blk hblk with ⟨hbl, hnw, _⟩ | ⟨j, blk0, hj, rfl, hm, hf, hw⟩
  ·rcases hb with hb | hb
   ·omega
   ·exact absurd hb hnw
  ·rcases hG.prov j (hin2 b j hw) blk0 hj g ((hown b j g hm hf).1 hg) with h | ⟨c, hcw, hcg, _⟩
   ·exact .inl h
   ·obtain ⟨d, _, hdw, hda, hdo⟩ := hwr c hcw
    exact .inr ⟨d, hdw, (hdo g).1 hcg, hda⟩
 ·have one : ∀ b c b1 b2, b ≠ c → (b ∈ ids ∨ hp.length ≤ b) → b < hp.length → b ∉ r.wr.filterMap (fun j => ids[j]?) → hp[b]? = some (some b1) → (∃ j bj, r.hp[j]? = some (some bj) ∧ b2 = (V.renL (backTo ids hp.length) bj.1, bj.2) ∧ (∀ g, μ' c = some g ↔ μc' j = some g) ∧ μ'.ft c = μc'.ft j ∧ ((c < hp.length ∧ ids[j]? = some c ∧ j ∈ r.wr) ∨ (hp.length ≤ c ∧ j = ids.length + (c - hp.length)))) → μ'.own b g → μ'.own c g → False := by
   rintro b c b1 b2 hne hb hbl hbw hb0 ⟨j, bj, hj, _, hm, hf, hw⟩ g1 g2
   have hbi : b ∈ ids := by rcases hb with hb | hb; exact hb; omega
   have g1' := hownu b g hbl hbw g1
   rcases hG.prov j (hin2 c j hw) bj hj g ((hown c j g hm hf).1 g2) with h | ⟨d, hdw, hdg, _⟩
   ·have := (pre.holds b hbi _ hb0).lt g1'; omega
   ·obtain ⟨q, hqj, hqw, ⟨_, hq0⟩, hqo⟩ := hwr d hdw
    exact pre.inj b hbi q (List.mem_of_getElem? hqj) _ _ g (by rintro rfl; exact hbw hqw) hb0 hq0 g1' ((hqo g).1 hdg)
  rcases hA b b1 h1 with ⟨hbl, hbw, hb0⟩ | hb1
  ·rcases hA c b2 h2 with ⟨hcl, hcw, hc0⟩ | hc1
   ·have hbi : b ∈ ids := by rcases hb with hb | hb; exact hb; omega
    have hci : c ∈ ids := by rcases hc with hc | hc; exact hc; omega
    exact pre.inj b hbi c hci _ _ g hne hb0 hc0 (hownu b g hbl hbw g1) (hownu c g hcl hcw g2)
   ·exact one b c b1 b2 hne hb hbl hbw hb0 hc1 g1 g2
  ·rcases hA c b2 h2 with ⟨hcl, hcw, hc0⟩ | hc1
   ·exact one c b b2 b1 (Ne.symm hne) hc hcl hcw hc0 hb1 g2 g1
   ·obtain ⟨j, bj, hj, _, hm1, hf1, hw1⟩ := hb1
    obtain ⟨k, bk, hk, _, hm2, hf2, hw2⟩ := hc1
    refine hG.inj j k _ _ g (fun e => hne ?_) (hin b j hw1) (hin c k hw2) hj hk ((hown b j g hm1 hf1).1 g1) ((hown c k g hm2 hf2).1 g2)
    subst e
    rcases hw1 with ⟨_, h3, _⟩ | ⟨_, h3⟩ <;> rcases hw2 with ⟨_, h4, _⟩ | ⟨_, h4⟩
    ·rw [h3] at h4; cases h4; rfl
    ·have := (List.getElem?_eq_some_iff.1 h3).1; omega
    ·have := (List.getElem?_eq_some_iff.1 h4).1; omega
    ·omega
theorem call_tidy {callF : CallF} (hc : CallOK P callF) {f : FuncId} {vs : List V} (h : evCall callF hp f vs = some out) : Tidy hp out.hp out.acc out.wr := by
 unfold evCall at h
 simp only at h
 generalize hids : reach hp 100000 (V.refsL vs) [] = ids at h
 obtain ⟨hnd, hal⟩ := reach_good hp 100000 (V.refsL vs) [] (by simp) (by simp)
 rw [hids] at hnd hal
 split at h
 case h_2 => cases h
 case h_1 r hr =>
 cases h
 obtain ⟨ht, _⟩ := hc _ _ _ _ hr
 have hlt : ∀ b ∈ ids, b < hp.length := fun b hb => by obtain ⟨blk, h⟩ := hal b hb; exact at_lt h
 refine ⟨by simp, fun b hb hn => ?_, fun b hb => ?_, hlt, fun b hb => ?_⟩
 ·rw [List.getElem?_append_left (by simpa using hb), zipIdx_at, List.getElem?_eq_getElem hb]
  simp only [Option.map_some]
  rw [if_neg (by simpa using hn)]
 ·obtain ⟨j, _, hj⟩ := List.mem_filterMap.1 hb; exact List.mem_of_getElem? hj
 ·obtain ⟨j, _, hj⟩ := List.mem_filterMap.1 hb; exact hal b (List.mem_of_getElem? hj)
end
end Go.Proofs.YtfncaghjfgnnhaaGreatDoor

namespace Go.Proofs.YtfncaghjfgnnhaaGreatDoor
open Go.RowKit
set_option maxRecDepth 100000
section
variable {P : Program} {I : Nat → Prop} {μ μ' : Mu} {w w' : World} {hp : Hp} {out : Out}
def Named (P : Program) : Prop := ∀ (f : FuncId) (fn : Func), P.funcs[f]? = some fn → fn.name ≠ "runtime.NumGoroutine"
def Bodied (P : Program) (callF : CallF) : Prop := ∀ f vs hp r, callF f vs hp = some r → ∃ fn, P.funcs[f]? = some fn ∧ fn.body.isSome = true
theorem op_wp {callF : CallF} (hn : Named P) (hb : Bodied P callF) (hc : CallOK P callF) {o : Oper} {e : Operand → V} {a : Act} {K : Act → World → Prop} {Q : Exit → Act → World → Prop} (h : evOp P callF e hp o.op = some out)
  (hops : ∀ x ∈ o.op.operands, V.R P I μ w (e x) (a.eval x)) (pre : Pre P I μ w hp out.acc out.hp.length)
  (hK : ∀ val w' μ' I', V.R P I' μ' w' out.v val → Good P I I' μ μ' w w' hp out.hp out.acc out.wr → K (a.put o.dst val) w') : o.wp P a w K Q := by
 unfold evOp at h
 split at h
 ·rename_i f args ts hop
  rw [hop] at hops
  split at h
  case h_2 => cases h
  case h_1 g cap hf =>
  have hfv := hops f (by simp [Op.operands, Call.operands])
  rw [hf] at hfv
  simp only [V.R] at hfv
  obtain ⟨vs, hfv, hcap⟩ := hfv
  have hargs : V.RL P I μ w (args.toList.map e ++ cap) ((args.map a.eval) ++ vs).toList := by
   rw [Array.toList_append, Array.toList_map]
   exact (RL_map fun x hx => hops x (by simp only [Op.operands, Call.operands]; exact Array.mem_append.2 (.inr (by simpa using hx)))).append hcap
  have hbody : ∃ fn, P.funcs[g]? = some fn ∧ fn.body.isSome = true := by
   unfold evCall at h
   simp only at h
   split at h
   ·rename_i r hr; exact hb _ _ _ _ hr
   ·cases h
  obtain ⟨fn, hfn, hbd⟩ := hbody
  have hrun : (execOp a.eval o).run P w = .ok (.enter g ((args.map a.eval) ++ vs)) w := by
   have hbd' : fn.body.isNone = false := by cases hq : fn.body <;> simp_all
   have hname : (fn.name == "runtime.NumGoroutine") = false := by simpa using hn g fn hfn
   simp only [execOp, hop, resolve, hfv, Deferred.ofValue, Sem.run_bind, Sem.run_pure, Result.andThen_ok, invoke, callFunc, run_program, hfn, hname, hbd', Bool.false_eq_true, if_false, Array.empty_append]
  unfold Oper.wp
  rw [hrun]
  refine (call_sound hc h hargs pre).mono ?_
  rintro e' w' ⟨val, μ', I', rfl, hR, hG⟩
  exact hK val w' μ' I' hR hG
 ·rename_i x name args ts hop
  rw [hop] at hops
  split at h
  case h_2 => cases h
  case h_1 t v hx =>
  split at h
  case h_2 => cases h
  case h_1 g hmt =>
  have hxv := hops x (by simp [Op.operands, Call.operands])
  rw [hx] at hxv
  simp only [V.R, V.RL] at hxv
  obtain ⟨vs, hxv, u, us, hvs, hvu, rfl⟩ := hxv
  obtain rfl : vs = #[u] := by cases vs; simp_all
  have hargs : V.RL P I μ w (v :: args.toList.map e) (#[u] ++ args.map a.eval).toList := by
   rw [Array.toList_append, Array.toList_map]
   simp only [V.RL, List.cons_append, List.nil_append]
   exact ⟨u, _, rfl, hvu, RL_map fun y hy => hops y (by simp only [Op.operands, Call.operands]; exact Array.mem_append.2 (.inr (by simpa using hy)))⟩
  have hbody : ∃ fn, P.funcs[g]? = some fn ∧ fn.body.isSome = true := by
   unfold evCall at h
   simp only at h
   split at h
   ·rename_i r hr; exact hb _ _ _ _ hr
   ·cases h
  have hrun : (execOp a.eval o).run P w = .ok (.enter g (#[u] ++ args.map a.eval)) w := by
   have hm := mtab_ok hmt u (args.map a.eval) w
   have e0 : (#[Value.iface t u] ++ args.map a.eval)[0]? = some (.iface t u) := by
    rw [Array.getElem?_append]; simp
   have e1 : (#[Value.iface t u] ++ args.map a.eval).extract 1 (#[Value.iface t u] ++ args.map a.eval).size = args.map a.eval := by
    apply Array.ext'
    simp only [Array.toList_extract, List.extract_eq_take_drop, Array.toList_append, Array.toList_map, List.cons_append, List.nil_append, List.drop_succ_cons, List.drop_zero]
    rw [List.take_of_length_le (by simp)]
   have e2 : BK.mk (.iface t) #[u] = .iface t u := rfl
   simp only [execOp, hop, resolve, hxv, e2, Sem.run_bind, Sem.run_pure, Result.andThen_ok, invoke, e0, e1]
   exact hm
  unfold Oper.wp
  rw [hrun]
  refine (call_sound hc h hargs pre).mono ?_
  rintro e' w' ⟨val, μ', I', rfl, hR, hG⟩
  exact hK val w' μ' I' hR hG
 ·split at h
  ·rename_i hpl
   cases h
   obtain ⟨nx, val, w', μ', h1, h2, h3, h4⟩ := plain_sound hpl hops pre
   unfold Oper.wp
   rw [h1]
   rcases h2 with rfl | ⟨rfl, rfl⟩
   ·exact hK _ _ _ _ h3 h4
   ·exact hK _ _ _ _ h3 h4
  ·obtain ⟨val, w', μ', h1, h3, h4⟩ := more_sound (fun _ => rfl) h hops pre
   unfold Oper.wp
   rw [h1]
   exact hK _ _ _ _ h3 h4
theorem op_tidy {callF : CallF} (hc : CallOK P callF) {o : Op} {e : Operand → V} (h : evOp P callF e hp o = some out) : Tidy hp out.hp out.acc out.wr := by
 unfold evOp at h
 split at h
 ·split at h
  ·exact call_tidy hc h
  ·cases h
 ·split at h
  ·split at h
   ·exact call_tidy hc h
   ·cases h
  ·cases h
 ·split at h
  ·rename_i hpl; cases h; exact plain_tidy hpl
  ·exact more_tidy h
structure OpOK (P : Program) (e : Operand → V) (hp : Hp) (o : Op) (out : Out) : Prop where
 tidy : Tidy hp out.hp out.acc out.wr
 wp : ∀ {I : Nat → Prop} {μ : Mu} {w : World} {oper : Oper} {a : Act} {K : Act → World → Prop} {Q : Exit → Act → World → Prop}, oper.op = o →
  (∀ x ∈ o.operands, V.R P I μ w (e x) (a.eval x)) → Pre P I μ w hp out.acc out.hp.length →
  (∀ val w' μ' I', V.R P I' μ' w' out.v val → Good P I I' μ μ' w w' hp out.hp out.acc out.wr → K (a.put oper.dst val) w') → oper.wp P a w K Q
theorem evOp_ok {callF : CallF} (hn : Named P) (hb : Bodied P callF) (hc : CallOK P callF) {o : Op} {e : Operand → V} {hp : Hp} {out : Out} (h : evOp P callF e hp o = some out) : OpOK P e hp o out :=
 ⟨op_tidy hc h, fun ho hops pre hK => op_wp hn hb hc (by rw [ho]; exact h) (by rw [ho]; exact hops) pre hK⟩
def lw {α : Type} (touch : Nat → Bool) (can : Nat → α) (L : Nat → Bool) : Nat → α
 | 0 => can 0
 | n + 1 => if L n && touch n then can (n + 1) else lw touch can L n
theorem lw_full {α : Type} {touch : Nat → Bool} {can : Nat → α} {L : Nat → Bool} : ∀ {j : Nat}, (∀ i, i < j → touch i = true → L i = true) → (∀ i, i < j → touch i = false → can (i + 1) = can i) → lw touch can L j = can j
 | 0, _, _ => rfl
 | j + 1, h, k => by
  unfold lw
  cases ht : touch j with
  | true => simp [h j (by omega) ht]
  | false =>
   simp only [Bool.and_false, Bool.false_eq_true, if_false, k j (by omega) ht]
   exact lw_full (fun i hi => h i (by omega)) (fun i hi => k i (by omega))
theorem lw_skip {α : Type} {touch : Nat → Bool} {can : Nat → α} {L : Nat → Bool} {j : Nat} : ∀ {n : Nat}, j ≤ n → (∀ i, j ≤ i → i < n → touch i = true → L i = false) → lw touch can L n = lw touch can L j
 | 0, h, _ => by rw [show j = 0 by omega]
 | n + 1, h, k => by
  by_cases e : j = n + 1
  ·rw [e]
  ·rw [lw]
   have : (L n && touch n) = false := by
    cases ht : touch n with
    | true => simp [k n (by omega) (by omega) ht]
    | false => simp
   rw [this, if_neg (by simp), lw_skip (by omega) fun i h1 h2 => k i h1 (by omega)]
def addL (L : Nat → Bool) (j : Nat) : Nat → Bool := fun i => i == j || L i
theorem lw_add_ne {α : Type} {touch : Nat → Bool} {can : Nat → α} {L : Nat → Bool} {j : Nat} (h : touch j = false) : ∀ n, lw touch can (addL L j) n = lw touch can L n
 | 0 => rfl
 | n + 1 => by
  unfold lw
  rw [lw_add_ne h n]
  by_cases e : n = j
  ·subst e; simp [h]
  ·simp [addL, e]
theorem lw_add_eq {α : Type} {touch : Nat → Bool} {can : Nat → α} {L : Nat → Bool} {j n : Nat} (hj : j < n) (h : touch j = true) (k : ∀ i, j < i → i < n → touch i = true → L i = false) : lw touch can (addL L j) n = can (j + 1) := by
 rw [lw_skip (j := j + 1) (by omega) (fun i h1 h2 h3 => by simp only [addL]; rw [k i (by omega) h2 h3]; simp; omega)]
 unfold lw
 simp [addL, h]
end
def StepR (P : Program) (ops : Array Oper) (s : St) (o : Oper) (s' : St) (acc wr : List Nat) : Prop :=
 (wantedV ops s.tm o = some true ∧ ∃ out, OpOK P (evalV s.tm) s.hp o.op out ∧ s' = ⟨putV s.tm o.dst out.v, out.hp, s.wr ++ out.wr⟩ ∧ acc = out.acc ∧ wr = out.wr) ∨
 (wantedV ops s.tm o = some false ∧ s' = ⟨putV s.tm o.dst (.lit undef), s.hp, s.wr⟩ ∧ acc = [] ∧ wr = [])
structure Run (P : Program) (ops : Array Oper) (sn : Nat → St) (ac wr : Nat → List Nat) : Prop where
 step : ∀ i o, ops[i]? = some o → StepR P ops (sn i) o (sn (i + 1)) (ac i) (wr i)
section
variable {P : Program} {ops : Array Oper} {sn : Nat → St} {ac wr : Nat → List Nat}
def touchB (sn : Nat → St) (wr : Nat → List Nat) (b i : Nat) : Bool := (wr i).contains b || (decide ((sn i).hp.length ≤ b) && decide (b < (sn (i + 1)).hp.length))
def touchT (ops : Array Oper) (t i : Nat) : Bool := ((ops[i]?).bind (·.dst)) == some t
theorem step_parts {s s' : St} {o : Oper} {acc wrs : List Nat} (h : StepR P ops s o s' acc wrs) :
  Tidy s.hp s'.hp acc wrs ∧ s'.wr = s.wr ++ wrs ∧ ∃ v, s'.tm = putV s.tm o.dst v := by
 rcases h with ⟨_, out, ho, rfl, rfl, rfl⟩ | ⟨_, rfl, rfl, rfl⟩
 ·exact ⟨ho.tidy, rfl, _, rfl⟩
 ·exact ⟨.same _ (by simp), by simp, _, rfl⟩
theorem Run.parts (hr : Run P ops sn ac wr) (i : Nat) (o : Oper) (ho : ops[i]? = some o) : Tidy (sn i).hp (sn (i + 1)).hp (ac i) (wr i) ∧ (sn (i + 1)).wr = (sn i).wr ++ wr i ∧ ∃ v, (sn (i + 1)).tm = putV (sn i).tm o.dst v :=
 step_parts (hr.step i o ho)
theorem putV_ne {tm : Tm} {d : Option Tmp} {v : V} {t : Nat} (h : d ≠ some t) : (putV tm d v).get t = tm.get t := by
 cases d with
 | none => rfl
 | some d => exact tm.get_ne v (fun e => h (by rw [e]))
theorem putV_len (tm : Tm) (d : Option Tmp) (v : V) : (putV tm d v).n = tm.n := by
 cases d <;> rfl
theorem lens (hr : Run P ops sn ac wr) : ∀ {i j : Nat}, i ≤ j → j ≤ ops.size → (sn i).hp.length ≤ (sn j).hp.length := by
 intro i j h
 induction j with
 | zero => intro _; rw [show i = 0 by omega]; exact Nat.le_refl _
 | succ j ih =>
  intro hj
  by_cases e : i = j + 1
  ·rw [e]; exact Nat.le_refl _
  ·exact Nat.le_trans (ih (by omega) (by omega)) (hr.parts j _ (Array.getElem?_eq_getElem (show j < ops.size by omega))).1.len
end
end Go.Proofs.YtfncaghjfgnnhaaGreatDoor

namespace Go.Proofs.YtfncaghjfgnnhaaGreatDoor
open Go.RowKit
set_option maxRecDepth 100000
section
variable {P : Program} {ops : Array Oper} {sn : Nat → St} {ac wr : Nat → List Nat}
def tmc (ops : Array Oper) (sn : Nat → St) (L : Nat → Bool) (t : Nat) : V := lw (touchT ops t) (fun i => (sn i).tm.get t) L ops.size
def hc (ops : Array Oper) (sn : Nat → St) (wr : Nat → List Nat) (L : Nat → Bool) (b : Nat) : Option (Option Blk) := lw (touchB sn wr b) (fun i => (sn i).hp[b]?) L ops.size
structure RI (P : Program) (ops : Array Oper) (sn : Nat → St) (wr : Nat → List Nat) (W : List Nat) (I0 : Nat → Prop) (μ0 : Mu) (w0 : World) (L : Nat → Bool) (a : Act) (w : World) (Im : Nat → Prop) (μ : Mu) : Prop where
 tm : ∀ t, V.R P Im μ w (tmc ops sn L t) (a.tmps.getD t undef)
 size : a.tmps.size = (sn 0).tm.n
 defers : a.defers = []
 holds : ∀ b blk, hc ops sn wr L b = some (some blk) → Holds P Im μ w b blk
 inj : ∀ b c blk blk' g, b ≠ c → hc ops sn wr L b = some (some blk) → hc ops sn wr L c = some (some blk') → μ.own b g → μ.own c g → False
 dom : ∀ b g, μ b = some g → μ0 b = some g ∨ ∃ i, L i = true ∧ i < ops.size ∧ (sn i).hp.length ≤ b ∧ b < (sn (i + 1)).hp.length
 ftd : ∀ b, b ∉ W → b < (sn 0).hp.length → μ.ft b = μ0.ft b
 evo : Evo I0 w0 w (fun k => ∃ b ∈ W, μ0.own b k ∧ Alive (sn 0).hp b)
 le : MuLe μ0 μ
 prov : ∀ b, ((sn 0).hp.length ≤ b ∨ b ∈ W) → ∀ blk, hc ops sn wr L b = some (some blk) → ∀ g, μ.own b g → w0.heap.size ≤ g ∨ ∃ c ∈ W, μ0.own c g ∧ Alive (sn 0).hp c
 isub : Sub I0 Im
 igrow : ∀ k, Im k → I0 k ∨ w0.heap.size ≤ k ∨ ∃ c ∈ W, μ0.own c k ∧ Alive (sn 0).hp c
 ilt : ILt P Im w
theorem touch_back (hr : Run P ops sn ac wr) {b i : Nat} {o : Oper} (ho : ops[i]? = some o) (h : touchB sn wr b i = false) : (sn (i + 1)).hp[b]? = (sn i).hp[b]? := by
 obtain ⟨ht, _, _⟩ := hr.parts i o ho
 simp only [touchB, Bool.or_eq_false_iff, Bool.and_eq_false_iff, decide_eq_false_iff_not] at h
 rcases Nat.lt_or_ge b (sn i).hp.length with hb | hb
 ·exact ht.frame b hb (by simpa using h.1)
 ·rw [List.getElem?_eq_none hb, List.getElem?_eq_none (by omega)]
theorem ri_step (hn : Named P) (hr : Run P ops sn ac wr) {W : List Nat} {I0 Im : Nat → Prop} {μ0 : Mu} {w0 : World} {L : Nat → Bool} {a : Act} {w : World} {μ : Mu} {j : Nat} {o : Oper}
  (hW : ∀ i, i < ops.size → ∀ b ∈ wr i, b ∈ W) (hdom0 : ∀ b g, μ0 b = some g → b < (sn 0).hp.length)
  (ho : ops[j]? = some o) (hj : L j = false)
  (h1 : ∀ i oi, i < j → ops[i]? = some oi → L i = false → oi.apart ops o = true ∧ (∀ b ∈ ac j, touchB sn wr b i = false) ∧ (∀ b ∈ wr j, b ∉ ac i))
  (h2 : ∀ i oi, j < i → ops[i]? = some oi → L i = true → o.apart ops oi = true ∧ (∀ b ∈ ac i, touchB sn wr b j = false) ∧ (∀ b ∈ wr i, b ∉ ac j))
  (I : RI P ops sn wr W I0 μ0 w0 L a w Im μ) {K : Act → World → Prop} {Q : Exit → Act → World → Prop}
  (hK : ∀ a' w' μ' Im', RI P ops sn wr W I0 μ0 w0 (addL L j) a' w' Im' μ' → K a' w') : wpOp P ops Q j K a w := by
 have hjs : j < ops.size := (Array.getElem?_eq_some_iff.1 ho).1
 have hstep := hr.step j o ho
 obtain ⟨htidy, _, vt, htm⟩ := step_parts hstep
 have hat : ∀ i, i < ops.size → ∃ oi, ops[i]? = some oi := fun i hi => ⟨_, Array.getElem?_eq_getElem hi⟩
 have hTd : ∀ i, i < ops.size → Tidy (sn i).hp (sn (i + 1)).hp (ac i) (wr i) := fun i hi => by
  obtain ⟨oi, hoi⟩ := hat i hi
  exact (hr.parts i oi hoi).1
 have hmono : ∀ i k, i ≤ k → k ≤ ops.size → (sn i).hp.length ≤ (sn k).hp.length := fun i k => lens hr
 have hlook : ∀ t, t ∈ o.looksAt ops → tmc ops sn L t = (sn j).tm.get t := by
  intro t ht
  unfold tmc
  rw [lw_skip (j := j) (by omega) (fun i hi hin htt => ?_)]
  ·refine lw_full (fun i hi htt => ?_) (fun i hi htt => ?_)
   ·cases hL : L i with
    | true => rfl
    | false =>
     obtain ⟨oi, hoi⟩ := hat i (by omega)
     have hd : oi.dst = some t := by simpa [touchT, hoi] using htt
     exact absurd ht ((Oper.apart_spec (h1 i oi hi hoi hL).1).1 t hd)
   ·obtain ⟨oi, hoi⟩ := hat i (by omega)
    obtain ⟨_, _, v, hv⟩ := hr.parts i oi hoi
    have hd : oi.dst ≠ some t := by simpa [touchT, hoi] using htt
    show (sn (i + 1)).tm.get t = _
    rw [hv, putV_ne hd]
  ·cases hL : L i with
   | false => rfl
   | true =>
    rcases Nat.lt_or_ge j i with hlt | hge
    ·obtain ⟨oi, hoi⟩ := hat i hin
     have hd : oi.dst = some t := by simpa [touchT, hoi] using htt
     exact absurd ht ((Oper.apart_spec (h2 i oi hlt hoi hL).1).2.2 t hd)
    ·have : i = j := by omega
     rw [this, hj] at hL; cases hL
 have hblk : ∀ b ∈ ac j, hc ops sn wr L b = (sn j).hp[b]? := by
  intro b hb
  have hbl := htidy.accb b hb
  unfold hc
  rw [lw_skip (j := j) (by omega) (fun i hi hin htt => ?_)]
  ·refine lw_full (fun i hi htt => ?_) (fun i hi htt => ?_)
   ·cases hL : L i with
    | true => rfl
    | false =>
     obtain ⟨oi, hoi⟩ := hat i (by omega)
     rw [(h1 i oi hi hoi hL).2.1 b hb] at htt; cases htt
   ·obtain ⟨oi, hoi⟩ := hat i (by omega)
    exact touch_back hr hoi htt
  ·cases hL : L i with
   | false => rfl
   | true =>
    rcases Nat.lt_or_ge j i with hlt | hge
    ·obtain ⟨oi, hoi⟩ := hat i hin
     have hm := hmono j i (by omega) (by omega)
     simp only [touchB, Bool.or_eq_true, Bool.and_eq_true, decide_eq_true_eq] at htt
     rcases htt with htt | htt
     ·exact absurd hb ((h2 i oi hlt hoi hL).2.2 b (by simpa using htt))
     ·omega
    ·have : i = j := by omega
     rw [this, hj] at hL; cases hL
 have htm' : ∀ t, touchT ops t j = true → tmc ops sn (addL L j) t = (sn (j + 1)).tm.get t := by
  intro t ht
  refine lw_add_eq hjs ht fun i hi hin htt => ?_
  cases hL : L i with
  | false => rfl
  | true =>
   obtain ⟨oi, hoi⟩ := hat i hin
   have hd : oi.dst = some t := by simpa [touchT, hoi] using htt
   have hd' : o.dst = some t := by simpa [touchT, ho] using ht
   exact absurd hd ((Oper.apart_spec (h2 i oi hi hoi hL).1).2.1 t hd')
 have htmn : ∀ t, touchT ops t j = false → tmc ops sn (addL L j) t = tmc ops sn L t := fun t ht => lw_add_ne ht _
 have hhn : ∀ b, touchB sn wr b j = false → hc ops sn wr (addL L j) b = hc ops sn wr L b := fun b hb => lw_add_ne hb _
 have hh' : ∀ b, touchB sn wr b j = true → hc ops sn wr (addL L j) b = (sn (j + 1)).hp[b]? := by
  intro b hb
  refine lw_add_eq hjs hb fun i hi hin htt => ?_
  cases hL : L i with
  | false => rfl
  | true =>
   obtain ⟨oi, hoi⟩ := hat i hin
   have hm := hmono (j + 1) i (by omega) (by omega)
   have hml := htidy.len
   simp only [touchB, Bool.or_eq_true, Bool.and_eq_true, decide_eq_true_eq] at htt
   rcases htt with htt | htt
   ·have hbi : b ∈ ac i := (hTd i hin).wracc b (by simpa using htt)
    rw [(h2 i oi hi hoi hL).2.1 b hbi] at hb; cases hb
   ·simp only [touchB, Bool.or_eq_true, Bool.and_eq_true, decide_eq_true_eq] at hb
    rcases hb with hb | hb
    ·have := htidy.accb b (htidy.wracc b (by simpa using hb)); omega
    ·omega
 have hacc' : ∀ b ∈ ac j, hc ops sn wr (addL L j) b = (sn (j + 1)).hp[b]? := by
  intro b hb
  cases ht : touchB sn wr b j with
  | true => exact hh' b ht
  | false => rw [hhn b ht, hblk b hb, touch_back hr ho ht]
 have hnew : ∀ b, (sn j).hp.length ≤ b → b < (sn (j + 1)).hp.length → hc ops sn wr (addL L j) b = (sn (j + 1)).hp[b]? := fun b hb hb' => hh' b (by simp [touchB, hb, hb'])
 have hfresh : ∀ b, (sn j).hp.length ≤ b → b < (sn (j + 1)).hp.length → μ b = none := by
  intro b hb hb'
  cases hm : μ b with
  | none => rfl
  | some g =>
   rcases I.dom b g hm with h | ⟨i, hL, hin, hib, hib'⟩
   ·have := hdom0 b g h
    have := hmono 0 j (by omega) (by omega)
    omega
   ·exfalso
    rcases Nat.lt_trichotomy i j with hlt | rfl | hgt
    ·have := hmono (i + 1) j (by omega) (by omega); omega
    ·rw [hj] at hL; cases hL
    ·have := hmono (j + 1) i (by omega) (by omega); omega
 have hopr : ∀ x ∈ o.op.operands, V.R P Im μ w (evalV (sn j).tm x) (a.eval x) := by
  intro x hx
  cases x with
  | tmp t =>
   simp only [evalV, Act.eval]
   rw [← hlook t (by unfold Oper.looksAt; exact List.mem_append.2 (.inl (List.mem_filterMap.2 ⟨.tmp t, by simpa using hx, rfl⟩)))]
   exact I.tm t
  | const v => exact R_ofValue v
  | global g => simp [evalV, V.R]
  | func f => simp [evalV, Act.eval, V.R, V.RL]
 have fin : ∀ (vv : V) (val : Value) (w' : World) (μ' : Mu) (Im' : Nat → Prop), (sn (j + 1)).tm = putV (sn j).tm o.dst vv → V.R P Im' μ' w' vv val → Good P Im Im' μ μ' w w' (sn j).hp (sn (j + 1)).hp (ac j) (wr j) →
   RI P ops sn wr W I0 μ0 w0 (addL L j) (a.put o.dst val) w' Im' μ' := by
  intro vv val w' μ' Im' hvv hR hG
  have hkeep : ∀ c v, V.R P Im μ w c v → V.R P Im' μ' w' c v := fun c v h => h.keep hG.evo hG.isub hG.le
  have hlt0 : (sn 0).hp.length ≤ (sn j).hp.length := hmono 0 j (by omega) (by omega)
  have halive : ∀ b, b ∈ wr j → ∃ blk, hc ops sn wr L b = some (some blk) := by
   intro b hb
   obtain ⟨blk, h⟩ := htidy.walive b hb
   exact ⟨blk, by rw [hblk b (htidy.wracc b hb)]; exact h⟩
  have hsplit : ∀ b blk, hc ops sn wr (addL L j) b = some (some blk) → ((b ∈ ac j ∨ (sn j).hp.length ≤ b) ∧ b < (sn (j + 1)).hp.length ∧ (sn (j + 1)).hp[b]? = some (some blk)) ∨ (b ∉ ac j ∧ touchB sn wr b j = false ∧ hc ops sn wr L b = some (some blk)) := by
   intro b blk h
   by_cases hb : b ∈ ac j
   ·rw [hacc' b hb] at h; exact .inl ⟨.inl hb, at_lt h, h⟩
   ·cases ht : touchB sn wr b j with
    | true =>
     rw [hh' b ht] at h
     simp only [touchB, Bool.or_eq_true, Bool.and_eq_true, decide_eq_true_eq] at ht
     rcases ht with ht | ht
     ·exact absurd (htidy.wracc b (by simpa using ht)) hb
     ·exact .inl ⟨.inr ht.1, ht.2, h⟩
    | false => rw [hhn b ht] at h; exact .inr ⟨hb, rfl, h⟩
  have hun : ∀ b, touchB sn wr b j = false → b ∉ wr j ∧ ¬ ((sn j).hp.length ≤ b ∧ b < (sn (j + 1)).hp.length) := by
   intro b hb
   simp only [touchB, Bool.or_eq_false_iff, Bool.and_eq_false_iff, decide_eq_false_iff_not] at hb
   exact ⟨by simpa using hb.1, fun h => hb.2.elim (fun h1 => h1 h.1) fun h1 => h1 h.2⟩
  have hmu0 : ∀ b g, touchB sn wr b j = false → μ' b = some g → μ b = some g := by
   intro b g hb hg
   rcases hG.dom b g hg with h | h
   ·exact h
   ·exact absurd h (hun b hb).2
  have hft0 : ∀ b, touchB sn wr b j = false → μ'.ft b = μ.ft b := fun b hb => hG.ftd b (hun b hb).1 (hun b hb).2
  have hmu : ∀ b g, touchB sn wr b j = false → μ'.own b g → μ.own b g := by
   intro b g hb hg
   rcases hg with hg | hg
   ·exact .inl (hmu0 b g hb hg)
   ·rw [hft0 b hb] at hg; exact .inr hg
  have fromW : ∀ c k, c ∈ wr j → μ.own c k → w0.heap.size ≤ k ∨ ∃ c ∈ W, μ0.own c k ∧ Alive (sn 0).hp c := by
   intro c g hcw hcg
   obtain ⟨b3, hb3⟩ := halive c hcw
   exact I.prov c (.inr (hW j hjs c hcw)) b3 hb3 g hcg
  refine ⟨fun t => ?_, ?_, ?_, fun b blk h => ?_, fun b c b1 b2 g hne hb1 hb2 g1 g2 => ?_, fun b g hg => ?_, fun b hb hbl => ?_, ?_, I.le.trans hG.le, fun b hb blk h g hg => ?_, fun k h => hG.isub k (I.isub k h), fun k hk => ?_, I.ilt.step hG.evo hG.isub fun k hk => ?_⟩
  ·cases ht : touchT ops t j with
   | false =>
    rw [htmn t ht]
    have hd : o.dst ≠ some t := by simpa [touchT, ho] using ht
    have e : (a.put o.dst val).tmps.getD t undef = a.tmps.getD t undef := by
     cases hod : o.dst with
     | none => rfl
     | some d =>
      have hdt : d ≠ t := fun e => hd (by rw [hod, e])
      simp [Act.put, Array.getElem?_setIfInBounds, hdt]
    rw [e]
    exact hkeep _ _ (I.tm t)
   | true =>
    rw [htm' t ht, hvv]
    have hd : o.dst = some t := by simpa [touchT, ho] using ht
    have hlen : (sn j).tm.n = (sn 0).tm.n := by
     have : ∀ i, i ≤ ops.size → (sn i).tm.n = (sn 0).tm.n := by
      intro i
      induction i with
      | zero => intro _; rfl
      | succ i ih =>
       intro hi
       obtain ⟨oi, hoi⟩ := hat i (by omega)
       obtain ⟨_, _, v, hv⟩ := hr.parts i oi hoi
       rw [hv, putV_len, ih (by omega)]
     exact this j (by omega)
    rw [hd]
    simp only [putV, Act.put]
    rcases (sn j).tm.get_eq t vv with ⟨e, htl⟩ | e
    ·have : t < a.tmps.size := by rw [I.size]; omega
     rw [e]
     simp [this]
     exact hR
    ·rw [e]
     simp [V.R]
  ·cases hod : o.dst <;> simp [Act.put, I.size]
  ·cases hod : o.dst <;> simp [Act.put, I.defers]
  ·rcases hsplit b blk h with ⟨hb, _, h'⟩ | ⟨hb, htb, h'⟩
   ·exact hG.holds b hb blk h'
   ·refine (I.holds b blk h').keep hG.evo hG.isub hG.le (fun h0 => ?_) (hft0 b htb) (fun g hg hx => ?_) (fun g hg hi => ?_)
    ·cases hm : μ' b with
     | none => rfl
     | some g => rw [hmu0 b g htb hm] at h0; cases h0
    ·obtain ⟨c, hcw, hcg⟩ := hx
     obtain ⟨blk', hc'⟩ := halive c hcw
     exact I.inj b c _ _ g (by rintro rfl; exact hb (htidy.wracc _ hcw)) h' hc' hg hcg
    ·rcases hG.igrow g hi with h | ⟨h, _⟩ | ⟨c, hcw, hcg, _⟩
     ·exact (I.holds b blk h').nimm hg h
     ·have := (I.holds b blk h').lt hg; omega
     ·obtain ⟨blk', hc'⟩ := halive c hcw
      exact I.inj b c _ _ g (by rintro rfl; exact hb (htidy.wracc _ hcw)) h' hc' hg hcg
  ·have other : ∀ b c b1 b2, b ≠ c → b ∉ ac j → touchB sn wr b j = false → hc ops sn wr L b = some (some b1) → (c ∈ ac j ∨ (sn j).hp.length ≤ c) → c < (sn (j + 1)).hp.length → (sn (j + 1)).hp[c]? = some (some b2) → μ'.own b g → μ'.own c g → False := by
    intro b c b1 b2 hne hb htb hb1 hcc hcl hc2 g1 g2
    have g1' := hmu b g htb g1
    have hbs := (I.holds b b1 hb1).lt g1'
    by_cases hcw : (sn j).hp.length ≤ c ∨ c ∈ wr j
    ·rcases hG.prov c hcw b2 hc2 g g2 with h | ⟨d, hdw, hdg, _⟩
     ·omega
     ·obtain ⟨b3, hb3⟩ := halive d hdw
      exact I.inj b d _ _ g (by rintro rfl; exact hb (htidy.wracc _ hdw)) hb1 hb3 g1' hdg
    ·simp only [not_or, Nat.not_le] at hcw
     have hca : c ∈ ac j := by rcases hcc with h | h; exact h; omega
     have g2' : μ.own c g := by
      rcases g2 with g2 | g2
      ·rcases hG.dom c g g2 with h | ⟨h, _⟩
       ·exact .inl h
       ·omega
      ·rw [hG.ftd c hcw.2 (by omega)] at g2; exact .inr g2
     have hb3 : hc ops sn wr L c = some (some b2) := by
      rw [hblk c hca, ← htidy.frame c hcw.1 hcw.2]; exact hc2
     exact I.inj b c _ _ g hne hb1 hb3 g1' g2'
   rcases hsplit b b1 hb1 with ⟨hb, hbl, hb'⟩ | ⟨hb, htb, hb'⟩
   ·rcases hsplit c b2 hb2 with ⟨hc1, hcl, hc2⟩ | ⟨hc1, htc, hc2⟩
    ·exact hG.inj b c b1 b2 g hne hb hc1 hb' hc2 g1 g2
    ·exact other c b b2 b1 (Ne.symm hne) hc1 htc hc2 hb hbl hb' g2 g1
   ·rcases hsplit c b2 hb2 with ⟨hc1, hcl, hc2⟩ | ⟨hc1, htc, hc2⟩
    ·exact other b c b1 b2 hne hb htb hb' hc1 hcl hc2 g1 g2
    ·exact I.inj b c b1 b2 g hne hb' hc2 (hmu b g htb g1) (hmu c g htc g2)
  ·rcases hG.dom b g hg with h | ⟨h3, h4⟩
   ·rcases I.dom b g h with h | ⟨i, hL, hi⟩
    ·exact .inl h
    ·exact .inr ⟨i, by simp [addL, hL], hi⟩
   ·exact .inr ⟨j, by simp [addL], hjs, h3, h4⟩
  ·rw [hG.ftd b (fun h => hb (hW j hjs b h)) (by omega)]; exact I.ftd b hb hbl
  ·refine I.evo.trans hG.evo I.isub fun k hk hx => ?_
   obtain ⟨c, hcw, hcg⟩ := hx
   rcases fromW c k hcw hcg with h | ⟨d, hdW, hdg⟩
   ·omega
   ·exact ⟨d, hdW, hdg⟩
  ·-- where it came from
   rcases hsplit b blk h with ⟨hb1, hbl, h'⟩ | ⟨hb1, htb, h'⟩
   ·by_cases hbw : (sn j).hp.length ≤ b ∨ b ∈ wr j
    ·rcases hG.prov b hbw blk h' g hg with h | ⟨c, hcw, hcg, _⟩
     ·exact .inl (Nat.le_trans I.evo.size h)
     ·exact fromW c g hcw hcg
    ·-- an old block that it only looked at
     simp only [not_or, Nat.not_le] at hbw
     have hba : b ∈ ac j := by rcases hb1 with h | h; exact h; omega
     have hb3 : hc ops sn wr L b = some (some blk) := by
      rw [hblk b hba, ← htidy.frame b hbw.1 hbw.2]; exact h'
     have hg' : μ.own b g := by
      rcases hg with hg | hg
      ·rcases hG.dom b g hg with h | ⟨h, _⟩
       ·exact .inl h
       ·omega
      ·rw [hG.ftd b hbw.2 (by omega)] at hg; exact .inr hg
     exact I.prov b hb blk hb3 g hg'
   ·exact I.prov b hb blk h' g (hmu b g htb hg)
  ·rcases hG.igrow k hk with h | ⟨h, _⟩ | ⟨c, hcw, hcg, _⟩
   ·rcases I.igrow k h with h | h | h
    ·exact .inl h
    ·exact .inr (.inl h)
    ·exact .inr (.inr h)
   ·exact .inr (.inl (Nat.le_trans I.evo.size h))
   ·exact .inr (fromW c k hcw hcg)
  ·rcases hG.igrow k hk with h | ⟨_, h⟩ | ⟨c, hcw, hcg, _⟩
   ·exact Nat.lt_of_lt_of_le (I.ilt k h) hG.evo.size
   ·exact h
   ·obtain ⟨b3, hb3⟩ := halive c hcw
    exact Nat.lt_of_lt_of_le ((I.holds c b3 hb3).lt hcg) hG.evo.size
 unfold wpOp
 rw [ho]
 simp only
 have hwanted : ∀ bb, wantedV ops (sn j).tm o = some bb → Region.wanted o (yielded ops a.tmps) = bb := by
  intro bb hbb
  unfold wantedV at hbb
  unfold Region.wanted
  split at hbb
  ·rename_i hg; cases hbb; rw [hg]
  ·rename_i k want hg
   rw [hg]
   simp only
   split at hbb
   case h_2 => cases hbb
   case h_1 d hd =>
   split at hbb
   case h_3 => cases hbb
   case h_2 vs hbv =>
    cases hbb
    have hlk := hlook d (by unfold Oper.looksAt; rw [hg]; exact List.mem_append.2 (.inr (by simp [hd])))
    have hR := I.tm d
    rw [hlk, hbv] at hR
    simp only [V.R] at hR
    have hy : yielded ops a.tmps k = none := by
     unfold yielded
     rw [hd]
     simp only [Option.bind_some]
     by_cases hdl : d < a.tmps.size
     ·simp [Array.getD_eq_getD_getElem?, hdl] at hR
      simp [hdl, hR]
     ·simp [hdl]
    rw [hy]
    rfl
   case h_1 bv hbv =>
   cases hbb
   have hlk := hlook d (by unfold Oper.looksAt; rw [hg]; exact List.mem_append.2 (.inr (by simp [hd])))
   have hR := I.tm d
   rw [hlk, hbv] at hR
   simp only [V.R] at hR
   have hy : yielded ops a.tmps k = some bv := by
    unfold yielded
    rw [hd]
    simp only [Option.bind_some]
    by_cases hdl : d < a.tmps.size
    ·simp [Array.getD_eq_getD_getElem?, hdl] at hR
     simp [hdl, hR]
    ·simp [Array.getD_eq_getD_getElem?, hdl, undef] at hR
   rw [hy]
   cases bv <;> cases want <;> rfl
 rcases hstep with ⟨hwt, out, hout, e1, e2, e3⟩ | ⟨hwf, e1, e2, e3⟩
 ·rw [hwanted true hwt]
  simp only [if_true]
  have ehp : (sn (j + 1)).hp = out.hp := by rw [e1]
  have etm : (sn (j + 1)).tm = putV (sn j).tm o.dst out.v := by rw [e1]
  left
  refine hout.wp rfl hopr ⟨I.ilt, fun b hb blk h => ?_, fun b hb c hc' b1 b2 g hne hb1 hb2 g1 g2 => ?_, fun b hb hb' => hfresh b hb (by rw [ehp]; exact hb')⟩ fun val w' μ' Im' hR hG => hK _ _ μ' Im' (fin out.v val w' μ' Im' etm hR (by rw [ehp, e2, e3]; exact hG))
  ·rw [← e2] at hb
   exact I.holds b blk (by rw [hblk b hb]; exact h)
  ·rw [← e2] at hb hc'
   exact I.inj b c b1 b2 g hne (by rw [hblk b hb]; exact hb1) (by rw [hblk c hc']; exact hb2) g1 g2
 ·rw [hwanted false hwf]
  simp only [Bool.false_eq_true, if_false]
  have ehp : (sn (j + 1)).hp = (sn j).hp := by rw [e1]
  have etm : (sn (j + 1)).tm = putV (sn j).tm o.dst (.lit undef) := by rw [e1]
  refine hK _ _ μ Im (fin (.lit undef) undef w μ Im etm (by simp [V.R]) ?_)
  rw [ehp, e2, e3]
  exact Good.same _ ⟨I.ilt, by simp, by simp, fun b hb hb' => by omega⟩
end
end Go.Proofs.YtfncaghjfgnnhaaGreatDoor

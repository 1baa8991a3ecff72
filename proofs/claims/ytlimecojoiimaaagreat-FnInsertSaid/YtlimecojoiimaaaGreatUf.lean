/-
  The small evaluator's plain operations, all together.
-/
import Derived.Test.YtlimecojoiimaaaGreatUe
import Derived.Laws.Slices
namespace Go.Proofs.YtlimecojoiimaaaGreat
open Go.RowKit

section
variable {P : Program} {I : Nat → Prop} {μ μ' : Mu} {w w' : World} {hp : Hp} {out : Out}

theorem len_sound {t ty : TypeId} {x : V} {vx : Value} (h : evLen P hp t x = some out) (hx : V.R P I μ w x vx) :
    out.hp = hp ∧ out.wr = [] ∧ out.acc = [] ∧ ∃ val, (Builtin.len_ #[t] ty #[vx]).run P w = .ok val w ∧ V.R P I μ w out.v val := by
  unfold evLen at h
  split at h
  case h_4 => cases h
  all_goals (split at h <;> cases h) <;> rename_i hu <;> simp only [V.R] at hx
  · subst hx
    refine ⟨rfl, rfl, rfl, goInt _, by simp [Builtin.len_, run_underlying hu]; rfl, by simp [V.R, goInt, ByteArray.size]⟩
  · obtain ⟨g, cap, e, N, i, _, rfl, _⟩ := hx
    refine ⟨rfl, rfl, rfl, _, by simp [Builtin.len_, run_underlying hu]; rfl, by simp [V.R, goInt]⟩
  · obtain ⟨a, cap, rfl, _⟩ := hx
    refine ⟨rfl, rfl, rfl, _, by simp [Builtin.len_, run_underlying hu]; rfl, by simp [V.R, goInt]⟩

theorem flatEq_sound {d : Nat} {f : Field} {x y : V} {vx vy : Value} {r : Bool} (h : flatEq P f x y = some r) (hx : V.R P I μ w x vx) (hy : V.R P I μ w y vy) :
    (Op.equalIn (d + 1) f.type vx vy).run P w = .ok r w ∧ ∃ dd, P.underlying f.type = some dd ∧ rowD dd = false := by
  unfold flatEq at h
  split at h
  case h_4 => cases h
  all_goals rename_i hu; simp only [V.R] at hx hy
  · subst hx hy
    split at h
    · rename_i hk; subst hk; cases h
      exact ⟨run_equalIn_int w d _ _ _ _ _ hu, _, hu, rfl⟩
    · cases h
  · subst hx hy; cases h; exact ⟨run_equalIn_bool w d _ _ _ hu, _, hu, rfl⟩
  · subst hx hy; cases h
    refine ⟨?_, _, hu, rfl⟩
    rw [run_equalIn_string w d _ _ _ hu]; simp

theorem flatEqs_sound {d : Nat} {xs ys : List V} {vx vy : Array Value} (hx : V.RL P I μ w xs vx.toList) (hy : V.RL P I μ w ys vy.toList) : ∀ {fs : List Field} {r : Bool}, flatEqs P xs ys fs = some r →
    (Op.eqFields (d + 1) vx vy fs).run P w = .ok r w
  | [], r, h => by cases h; simp [Op.eqFields]
  | f :: fs, r, h => by
    unfold flatEqs at h
    split at h
    case isTrue => cases h
    case isFalse hn =>
    split at h
    case h_2 => cases h
    case h_1 x y hxo hyo =>
    obtain ⟨u, hu, hru⟩ := hx.get hxo
    obtain ⟨v, hv, hrv⟩ := hy.get hyo
    have hpart : ∀ (vs : Array Value) (u : Value) (dd : TypeDesc), vs.toList[f.offset]? = some u → P.underlying f.type = some dd → rowD dd = false → (part f.type vs f.offset).run P w = .ok u w := by
      intro vs u dd hu hd hr
      rw [Array.getElem?_toList] at hu
      simp only [part, Sem.run_bind, run_isAgg hd, Result.andThen_ok, hr, Bool.false_eq_true, if_false, hu, Sem.run_pure]
    split at h
    · rename_i he
      obtain ⟨h1, dd, hd, hr⟩ := flatEq_sound (d := d) he hru hrv
      have ih := flatEqs_sound (d := d) hx hy h
      simp only [Op.eqFields, ne_eq, hn, not_false_eq_true, if_true, Sem.run_bind, hpart vx u dd hu hd hr, hpart vy v dd hv hd hr, Result.andThen_ok, h1, Bool.not_true, Bool.false_eq_true, if_false, ih]
    · rename_i he
      cases h
      obtain ⟨h1, dd, hd, hr⟩ := flatEq_sound (d := d) he hru hrv
      simp only [Op.eqFields, ne_eq, hn, not_false_eq_true, if_true, Sem.run_bind, hpart vx u dd hu hd hr, hpart vy v dd hv hd hr, Result.andThen_ok, h1, Bool.not_false, Sem.run_pure]
    · cases h

theorem int_sound {t : TypeId} {op : BinOp} {k : IntKind} {a b : Int} {v : V} (h : evInt op k a b = some v) : ∃ val, (binOp op t (.int k a) (.int k b)).run P w = .ok val w ∧ V.R P I μ w v val := by
  unfold evInt at h
  split at h
  · cases h; exact ⟨.int k (k.wrap (a + b)), by simp [binOp, Op.intArith], by simp [V.R]⟩
  · cases h; exact ⟨.int k (k.wrap (a - b)), by simp [binOp, Op.intArith], by simp [V.R]⟩
  · cases h; exact ⟨.int k (k.wrap (a * b)), by simp [binOp, Op.intArith], by simp [V.R]⟩
  · split at h
    · cases h
    · rename_i hb; cases h; exact ⟨.int k (k.wrap (a.tdiv b)), by simp [binOp, Op.intDiv, hb], by simp [V.R]⟩
  · split at h
    · cases h
    · rename_i hb; cases h; exact ⟨.int k (a.tmod b), by simp [binOp, Op.intDiv, hb], by simp [V.R]⟩
  · unfold evCmp at h
    split at h <;> cases h
    all_goals refine ⟨_, by simp only [binOp]; simp [Op.intCmp]; rfl, by simp [V.R]⟩

theorem str_sound {t : TypeId} {op : BinOp} {a b : List UInt8} {v : V} (h : evStr op a b = some v) : ∃ val, (binOp op t (.string ⟨a.toArray⟩) (.string ⟨b.toArray⟩)).run P w = .ok val w ∧ V.R P I μ w v val := by
  unfold evStr at h
  split at h
  · split at h
    · rename_i hl
      cases h
      refine ⟨.string ⟨(a ++ b).toArray⟩, ?_, by simp [V.R]⟩
      have hn : ¬ (9223372036854775807 < (a.length : Int) + (b.length : Int)) := by omega
      have e : (⟨a.toArray⟩ ++ ⟨b.toArray⟩ : ByteArray) = ⟨(a ++ b).toArray⟩ := by apply ByteArray.ext; simp
      simp only [binOp]
      simp [Op.stringOp, ByteArray.size, hn, e]
    · cases h
  all_goals first | (cases h; done) | skip
  all_goals
    cases h
    refine ⟨_, by simp only [binOp]; simp [Op.stringOp]; rfl, by simp [V.R]⟩

theorem guard_int (op : BinOp) (t : TypeId) (ox oy : Operand) (k k' : IntKind) (a b : Int) : (eqGuard op t ox oy (.int k a) (.int k' b)).run P w = .ok () w := by cases op <;> rfl
theorem guard_str (op : BinOp) (t : TypeId) (ox oy : Operand) (a b : ByteArray) : (eqGuard op t ox oy (.string a) (.string b)).run P w = .ok () w := by cases op <;> rfl
theorem guard_bool (op : BinOp) (t : TypeId) (ox oy : Operand) (a b : Bool) : (eqGuard op t ox oy (.bool a) (.bool b)).run P w = .ok () w := by cases op <;> rfl
theorem guard_slice (op : BinOp) (t : TypeId) (ox oy : Operand) (a : Option Addr) (l c : Nat) (b : Option Addr) (m d : Nat) : (eqGuard op t ox oy (.slice a l c) (.slice b m d)).run P w = .ok () w := by cases op <;> rfl

theorem bin_sound {op : BinOp} {t : TypeId} {ox oy : Operand} {x y v : V} {vx vy : Value} (h : evBin P op t x y = some v) (hx : V.R P I μ w x vx) (hy : V.R P I μ w y vy) :
    ∃ val, (do eqGuard op t ox oy vx vy; binOp op t vx vy : Sem Value).run P w = .ok val w ∧ V.R P I μ w v val := by
  unfold evBin at h
  split at h
  · simp only [V.R] at hx hy
    subst hx hy
    split at h
    · rename_i hk; subst hk
      obtain ⟨val, h1, h2⟩ := int_sound (P := P) (I := I) (μ := μ) (w := w) (t := t) h
      exact ⟨val, by rw [Sem.run_bind, guard_int]; exact h1, h2⟩
    · cases h
  · simp only [V.R] at hx hy
    subst hx hy
    obtain ⟨val, h1, h2⟩ := str_sound (P := P) (I := I) (μ := μ) (w := w) (t := t) h
    exact ⟨val, by rw [Sem.run_bind, guard_str]; exact h1, h2⟩
  · simp only [V.R] at hx hy
    subst hx hy
    split at h
    · rename_i hu
      cases h
      refine ⟨_, by rw [Sem.run_bind, guard_bool]; simp only [Result.andThen_ok, binOp]; simp [run_equal_bool w t _ _ hu]; rfl, by simp [V.R]⟩
    · rename_i hu
      cases h
      refine ⟨_, by rw [Sem.run_bind, guard_bool]; simp only [Result.andThen_ok, binOp]; simp [run_equal_bool w t _ _ hu]; rfl, by simp [V.R]⟩
    · cases h
  · simp only [V.R] at hx hy
    obtain ⟨ax, rfl, hx⟩ := hx
    obtain ⟨ay, rfl, hy⟩ := hy
    split at h
    · rename_i fs hu hst hgt
      cases hr : flatEqs P _ _ fs.toList with
      | none => rw [hr] at h; cases h
      | some r =>
        rw [hr] at h; cases h
        have hf : P.fieldsOf t = fs := by simp [Program.fieldsOf, hu]
        refine ⟨.bool r, ?_, by simp [V.R]⟩
        rw [Sem.run_bind, run_eqGuard_agg w .eql t ox oy ax ay hgt]
        simp only [Result.andThen_ok]
        rw [run_eql_struct, run_equalIn_struct w 9999 t ax ay (by rw [hf]; exact hu) hst, hf, flatEqs_sound hx hy hr]
        rfl
    · rename_i fs hu hst hgt
      cases hr : flatEqs P _ _ fs.toList with
      | none => rw [hr] at h; cases h
      | some r =>
        rw [hr] at h; cases h
        have hf : P.fieldsOf t = fs := by simp [Program.fieldsOf, hu]
        refine ⟨.bool (!r), ?_, by simp [V.R]⟩
        rw [Sem.run_bind, run_eqGuard_agg w .neq t ox oy ax ay hgt]
        simp only [Result.andThen_ok]
        rw [run_neq_struct, run_equalIn_struct w 9999 t ax ay (by rw [hf]; exact hu) hst, hf, flatEqs_sound hx hy hr]
        rfl
    · cases h
  · cases h

theorem un_sound {op : UnOp} {x v : V} {vx : Value} (h : evUn op x = some v) (hx : V.R P I μ w x vx) : ∃ val, (Op.unary op vx).run P w = .ok val w ∧ V.R P I μ w v val := by
  unfold evUn at h
  split at h
  case h_3 => cases h
  all_goals (split at h <;> cases h) <;> (simp only [V.R] at hx; subst hx)
  · exact ⟨_, by simp [Op.unary, Op.intArith]; rfl, by simp [V.R]⟩
  · exact ⟨_, by simp [Op.unary]; rfl, by simp [V.R]⟩

theorem bytes_sound : ∀ {cs : List V} {l : List UInt8} {vs : List Value}, bytesV cs = some l → V.RL P I μ w cs vs → vs = bv l
  | [], l, vs, h, hr => by cases h; simpa [V.RL, bv] using hr
  | c :: cs, l, vs, h, hr => by
    unfold bytesV at h
    split at h
    · rename_i e; cases e
    · rename_i n cs' e
      cases e
      split at h
      · rename_i hn
        cases hb : bytesV cs with
        | none => rw [hb] at h; cases h
        | some l' =>
          rw [hb] at h; cases h
          simp only [V.RL] at hr
          obtain ⟨u, us, rfl, h1, h2⟩ := hr
          simp only [V.R] at h1
          subst h1
          have := bytes_sound hb h2
          subst this
          have hm : n % 256 = n := by omega
          simp [bv, UInt8.toNat_ofNat']
          omega
      · cases h
    · cases h

theorem conv_sound {s d : TypeId} {x : V} {vx : Value} (h : evConv P hp s d x = some out) (hx : V.R P I μ w x vx) (pre : Pre P I μ w hp out.acc out.hp.length) :
    ∃ val w' μ', (convert s d vx).run P w = .ok val w' ∧ V.R P I μ' w' out.v val ∧ Good P I I μ μ' w w' hp out.hp out.acc out.wr := by
  unfold evConv at h
  split at h
  · simp only [V.R] at hx
    subst hx
    split at h
    · rename_i hs hd
      cases h
      exact ⟨_, w, μ, by simp [convert, run_underlying hs, run_underlying hd, Conv.intToInt]; rfl, by simp [V.R], Good.same hp pre⟩
    · cases h
  · rename_i l
    simp only [V.R] at hx
    subst hx
    split at h
    · rename_i hs hd
      cases h
      exact ⟨_, w, μ, by simp [convert, run_underlying hs, run_underlying hd]; rfl, by simp [V.R], Good.same hp pre⟩
    · rename_i e hs hd
      split at h
      · rename_i i he hi
        split at h
        · rename_i hc
          cases h
          have hr := run_bytes_of_string (P := P) w s d e ⟨l.toArray⟩ hs hd he
          have hsz : (⟨l.toArray⟩ : ByteArray).size = l.length := rfl
          rw [hsz] at hr
          have hge := grownCap_ge w l.length 0 e
          have hrow : (bytesRow ⟨l.toArray⟩ (grownCap w l.length 0 e)).size = grownCap w l.length 0 e := by
            simp only [bytesRow, hsz]; simp; omega
          obtain ⟨hg, hsh⟩ := Good.newC (P := P) (I := I) (μ := μ) (w := w) (hp := hp) (acc := []) (blk := ([.sld (l.map fun b => V.int .u8 b.toNat)], e)) (cs := bytesRow ⟨l.toArray⟩ (grownCap w l.length 0 e))
            (fr := ((bytesRow ⟨l.toArray⟩ (grownCap w l.length 0 e)).size, (bytesRow ⟨l.toArray⟩ (grownCap w l.length 0 e)).size + 1)) (wd := w.drew) (.inr rfl) (by simpa using pre) (.inr (Nat.le_refl _)) (.sld (by simp [hrow]; exact hge) (by
              have e1 : (bytesRow ⟨l.toArray⟩ (grownCap w l.length 0 e)).toList.take (l.map fun b => V.int .u8 b.toNat).length = bv l := by
                simp [bytesRow, bv]
              rw [e1]
              clear hr hrow pre hc hge hsz e1
              induction l with
              | nil => simp [V.RL, bv]
              | cons b l ih => simp only [List.map_cons, V.RL, bv]; exact ⟨_, _, rfl, by simp [V.R], ih⟩))
          refine ⟨_, _, _, hr, ?_, hg⟩
          simp only [V.R]
          exact ⟨_, grownCap w l.length 0 e, e, _, i, Mu.put_at _ _ _, rfl, hge, grownCap_le_maxLen w _ _ _ hc.1, by simp, hsh, hi, by rw [hc.2]; show 0 + _ * 1 ≤ (bytesRow _ _).size; rw [hrow]; omega⟩
        · cases h
      · cases h
    · cases h
  · rename_i b off n full
    simp only [V.R] at hx
    obtain ⟨g, cap, e', N, i, hg, rfl, _⟩ := hx
    split at h
    · rename_i e hs hd
      split at h
      · rename_i blk he hb
        split at h
        · rename_i hl
          split at h
          · rename_i l hbv
            cases h
            obtain ⟨cs, hrow, hsz, hrl⟩ := (pre.holds b (by simp) blk hb).row hg
            have hr2 := (hrl.drop off).take n
            have hbl := bytes_sound hbv hr2
            have hll : n = l.length := by have := hr2.length; rw [hbl, hl] at this; simpa [bv] using this.symm
            refine ⟨_, w, μ, run_string_of w s d e hs he hd _ n cap l hll (.inr ⟨_, rfl, hrow.lt, fun j u hu => ?_⟩), by simp [V.R], Good.same hp pre⟩
            rw [← hbl] at hu
            rw [Addr.add_mid]
            exact hrow.range off _ _ j u hu
          · cases h
        · cases h
      · cases h
    · cases h
  · rename_i n full cs0
    simp only [V.R] at hx
    obtain ⟨a, cap, rfl, _, _, _, hmem⟩ := hx
    split at h
    · rename_i e hs hd
      split at h
      · rename_i he
        split at h
        · rename_i hl
          split at h
          · rename_i l hbv
            cases h
            have key : ∃ nv : List Value, V.RL P I μ w (cs0.take n) nv ∧ Lies w a nv := by
              rcases hmem with rfl | ⟨g, off, rfl, _, cells, e, fr, hg, hrl⟩
              · exact ⟨[], by simp [V.RL], .inl rfl⟩
              · refine ⟨((cells.toList.drop off).take cs0.length).take n, RL_up (hrl.take _), .inr ⟨_, rfl, (Array.getElem?_eq_some_iff.1 hg).1, fun j v hv => ?_⟩⟩
                rw [Addr.add_mid]
                rw [List.getElem?_take] at hv
                split at hv
                · rw [List.getElem?_take] at hv
                  split at hv
                  · rw [List.getElem?_drop] at hv
                    simpa [World.cell?, hg] using hv
                  · cases hv
                · cases hv
            obtain ⟨nv, h1, h2⟩ := key
            have hbl := bytes_sound hbv h1
            have hll : n = l.length := by have := h1.length; rw [hbl, hl] at this; simpa [bv] using this.symm
            exact ⟨_, w, μ, run_string_of w s d e hs he hd _ n cap l hll (by rw [← hbl]; exact h2), by simp [V.R], Good.same hp pre⟩
          · cases h
        · cases h
      · cases h
    · cases h
  · cases h

end
end Go.Proofs.YtlimecojoiimaaaGreat

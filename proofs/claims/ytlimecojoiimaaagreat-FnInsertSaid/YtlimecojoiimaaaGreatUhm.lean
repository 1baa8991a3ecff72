/-
  The small evaluator: some more operations.
-/
import Derived.Test.YtlimecojoiimaaaGreatUh
namespace Go.Proofs.YtlimecojoiimaaaGreat
open Go.RowKit

def nilC : Operand → Bool
  | .const (.slice none 0 0) => true
  | _ => false
/-- Is a slice nil? -/
def isNilV : V → Option Bool
  | .sl _ _ _ _ => some false
  | .dsl (_ + 1) _ _ => some false
  | .lit (.slice none 0 0) => some true
  | .lit (.slice (some _) _ _) => some false
  | _ => none
def evClear (P : Program) (hp : Hp) (t : TypeId) (x : V) : Option Out :=
  match P.underlying t with
  | some (.slice elem) => match x with
    | .dsl 0 _ _ => some ⟨.tup [], hp, [], []⟩
    | .sl _ _ 0 _ => some ⟨.tup [], hp, [], []⟩
    | .sl b off (n + 1) _ => match P.info? elem, hp[b]? with
      | some i, some (some blk) => match i.zero with
        | some z =>
          if blk.2 = elem ∧ 0 < i.size ∧ z.cells.size = i.size ∧ (zeros (z.cells.toList.map ofScalar) ((n + 1) * i.size)).all V.one = true ∧ off + (n + 1) * i.size ≤ (flat blk.1).length then
            match spliceV blk.1 off ((n + 1) * i.size) (zeros (z.cells.toList.map ofScalar) ((n + 1) * i.size)) with
            | some l => some ⟨.tup [], hp.set b (some (l, blk.2)), [b], [b]⟩
            | none => none
          else none
        | none => none
      | _, _ => none
    | _ => none
  | _ => none
/-- Onto a slice nothing is appended. -/
def evApp0 (P : Program) (hp : Hp) (t t' : TypeId) (s x : V) : Option Out :=
  match P.underlying t, t == t' with
  | some (.slice elem), true => match P.info? elem, s, x with
    | some _, .sl b off n full, .lit (.slice _ 0 _) => some ⟨.sl b off n full, hp, [], []⟩
    | some _, .dsl n full cs, .lit (.slice _ 0 _) => some ⟨.dsl n full cs, hp, [], []⟩
    | _, _, _ => none
  | _, _ => none
/-- What evPlain does not do. -/
def evMore (P : Program) (e : Operand → V) (hp : Hp) : Op → Option Out
  | .binOp op t x y _ => match nilC y with
    | true => match P.underlying t, isNilV (e x), op with
      | some (.slice _), some b, .eql => some ⟨.bool b, hp, [], []⟩
      | some (.slice _), some b, .neq => some ⟨.bool (!b), hp, [], []⟩
      | _, _, _ => none
    | false => match op, e x, e y with
      | .shr, .int k a, .int _ b => if 0 ≤ b then some ⟨.int k (a.fdiv (2 ^ min b.toNat k.bits)), hp, [], []⟩ else none
      | .shl, .int k a, .int _ b => if 0 ≤ b then some ⟨.int k (k.wrap (a * 2 ^ min b.toNat k.bits)), hp, [], []⟩ else none
      | _, _, _ => none
  | .call c => match c.callee, c.args.toList, c.argTypes.toList with
    | .builtin .append, [s, x], [t, t'] => evApp0 P hp t t' (e s) (e x)
    | .builtin .clear, [x], [t] => evClear P hp t (e x)
    | _, _, _ => none
  | _ => none

section
variable {P : Program} {I : Nat → Prop} {μ : Mu} {w : World} {hp : Hp} {out : Out}

theorem more_tidy {e : Operand → V} {op : Op} (h : evMore P e hp op = some out) : Tidy hp out.hp out.acc out.wr := by
  unfold evMore at h
  split at h
  · split at h
    · split at h
      · cases h; exact .same hp (by simp)
      · cases h; exact .same hp (by simp)
      · cases h
    · split at h
      · split at h
        · cases h; exact .same hp (by simp)
        · cases h
      · split at h
        · cases h; exact .same hp (by simp)
        · cases h
      · cases h
  · split at h
    · unfold evApp0 at h
      split at h
      · split at h
        · cases h; exact .same hp (by simp)
        · cases h; exact .same hp (by simp)
        · cases h
      · cases h
    · unfold evClear at h
      split at h
      case h_2 => cases h
      split at h
      · cases h; exact .same hp (by simp)
      · cases h; exact .same hp (by simp)
      · split at h
        · rename_i i blk hi hb
          split at h
          · split at h
            · split at h
              · cases h
                exact ⟨by simp, fun c hc hn => by rw [List.getElem?_set_ne (fun e => hn (by simp [e]))], by simp, by simpa using at_lt hb, by intro c hc; obtain rfl := List.mem_singleton.1 hc; exact ⟨_, hb⟩⟩
              · cases h
            · cases h
          · cases h
        · cases h
      · cases h
    · cases h
  · cases h

theorem run_equalIn_nil (w : World) (d : Nat) (t e : TypeId) (a : Option Addr) (l c : Nat) (h : P.underlying t = some (.slice e)) : (Op.equalIn (d + 1) t (.slice a l c) (.slice none 0 0)).run P w = .ok a.isNone w := by
  cases a <;> simp [Op.equalIn, run_underlying h]
theorem run_equal_nil (w : World) (t e : TypeId) (a : Option Addr) (l c : Nat) (h : P.underlying t = some (.slice e)) : (Op.equal t (.slice a l c) (.slice none 0 0)).run P w = .ok a.isNone w := run_equalIn_nil w 9999 t e a l c h

theorem nil_sound {t : TypeId} {ox oy : Operand} {x : V} {vx vy : Value} {b : Bool} {e : TypeId} {op : BinOp} (hu : P.underlying t = some (.slice e)) (hn : isNilV x = some b) (hx : V.R P I μ w x vx) (hy : vy = .slice none 0 0) (hop : op = .eql ∨ op = .neq) :
    (do eqGuard op t ox oy vx vy; binOp op t vx vy : Sem Value).run P w = .ok (.bool (if op = .eql then b else !b)) w := by
  subst hy
  have key : ∃ a l c, vx = .slice a l c ∧ b = a.isNone := by
    unfold isNilV at hn
    split at hn
    · cases hn
      simp only [V.R] at hx
      obtain ⟨g, cap, _, _, _, _, rfl, _⟩ := hx
      exact ⟨_, _, _, rfl, rfl⟩
    · cases hn
      simp only [V.R] at hx
      obtain ⟨a, cap, rfl, hle, _, ha, _⟩ := hx
      rcases ha with ⟨_, h0⟩ | ⟨g, off, rfl⟩
      · omega
      · exact ⟨_, _, _, rfl, rfl⟩
    · cases hn
      simp only [V.R] at hx
      exact ⟨_, _, _, hx, rfl⟩
    · cases hn
      simp only [V.R] at hx
      exact ⟨_, _, _, hx, rfl⟩
    · cases hn
  obtain ⟨a, l, c, rfl, rfl⟩ := key
  rw [Sem.run_bind, guard_slice]
  simp only [Result.andThen_ok]
  rcases hop with rfl | rfl
  · simp only [binOp]
    simp [run_equal_nil w t e a l c hu]
  · simp only [binOp]
    simp [run_equal_nil w t e a l c hu]

theorem clear_sound {t ty : TypeId} {x : V} {vx : Value} (h : evClear P hp t x = some out) (hx : V.R P I μ w x vx) (pre : Pre P I μ w hp out.acc out.hp.length) : DoesP P I μ w hp out (Builtin.clear_ #[t] ty #[vx]) := by
  unfold evClear at h
  split at h
  case h_2 => cases h
  case h_1 elem hu =>
  split at h
  · cases h
    simp only [V.R] at hx
    obtain ⟨a, cap, rfl, _⟩ := hx
    refine .same rfl rfl pre ⟨.tuple #[], ?_, by simp [V.R, V.RL]⟩
    cases a <;> simp [Builtin.clear_, run_underlying hu]
  · cases h
    simp only [V.R] at hx
    obtain ⟨g, cap, _, _, _, _, rfl, _⟩ := hx
    refine .same rfl rfl pre ⟨.tuple #[], ?_, by simp [V.R, V.RL]⟩
    simp [Builtin.clear_, run_underlying hu]
  · rename_i b off n full
    split at h
    case h_2 => cases h
    case h_1 i blk hi hb =>
    split at h
    case h_2 => cases h
    case h_1 z hz =>
    split at h
    case isFalse => cases h
    case isTrue hc =>
    obtain ⟨hel, hpos, hzs, h1, hle⟩ := hc
    split at h
    case h_2 => cases h
    case h_1 l' hsp =>
    cases h
    simp only [V.R] at hx
    obtain ⟨g, cap, e, N, i', hg, rfl, _⟩ := hx
    obtain ⟨g', cs, fr, hg', _, hw, hfr, hsz, hcr⟩ := pre.holds b (by simp) blk hb
    rw [hg] at hg'; cases hg'
    have hrow : Row w g blk.2 cs := ⟨fr, hw, hfr⟩
    have hzl : V.RL P I μ w (zeros (z.cells.toList.map ofScalar) ((n + 1) * i.size)) (Builtin.zeroCells z.cells (n + 1)).toList := by
      have := RL_zeros (P := P) (I := I) (μ := μ) (w := w) z.cells ((n + 1) * i.size)
      unfold Builtin.zeroCells
      rw [hzs]; rw [hzs] at this; exact this
    have hvl : (Builtin.zeroCells z.cells (n + 1)).toList.length = (n + 1) * i.size := by simp [Builtin.zeroCells, hzs]
    have hst := storeCells_row P g off blk.2 (Builtin.zeroCells z.cells (n + 1)).toList 0 cs w hrow (by omega) (ones hzl h1)
    simp only [Nat.add_zero] at hst
    obtain ⟨hl2, hcr2⟩ := splice_sound hsp hcr hzl (by simp [zeros]) hle
    refine ⟨.tuple #[], w.setRow g (cs.toList.take off ++ (Builtin.zeroCells z.cells (n + 1)).toList ++ cs.toList.drop (off + (Builtin.zeroCells z.cells (n + 1)).toList.length)).toArray, μ, ?_, by simp [V.R, V.RL], ?_⟩
    · simp [Builtin.clear_, Sem.run_bind, run_underlying hu, zeroValue, typeInfo, hi, hz]
      rw [hst]
      simp
    · have e := take_splice cs.toList (Builtin.zeroCells z.cells (n + 1)).toList off (flat blk.1).length (by omega) (by simpa using hsz)
      have hvs : (Builtin.zeroCells z.cells (n + 1)).size = (n + 1) * i.size := by simpa using hvl
      refine Good.writeC (blk' := (l', blk.2)) (by simpa using pre) (by simp) hb hg hw rfl ?_ hfr ?_
      · simp only [List.size_toArray, List.length_append, List.length_take, List.length_drop, Array.length_toList]; omega
      · refine ⟨?_, ?_⟩
        · show (flat l').length ≤ _
          rw [hl2]; simp only [List.size_toArray, List.length_append, List.length_take, List.length_drop, Array.length_toList]; omega
        · show CR P I μ w l' (List.take (flat l').length _)
          rw [hl2, e, hvl]
          exact hcr2
  · cases h

theorem app0_sound {t t' ty : TypeId} {x y : V} {vx vy : Value} (h : evApp0 P hp t t' x y = some out) (hx : V.R P I μ w x vx) (hy : V.R P I μ w y vy) (pre : Pre P I μ w hp out.acc out.hp.length) : DoesP P I μ w hp out (Builtin.append_ #[t, t'] ty #[vx, vy]) := by
  unfold evApp0 at h
  split at h
  case h_2 => cases h
  case h_1 elem hu htt =>
  obtain rfl : t = t' := by simpa using htt
  split at h
  · rename_i i b off n full a c hi
    cases h
    have hx0 := hx
    simp only [V.R] at hx hy
    subst hy
    obtain ⟨g, cap, e, N, i', hg, rfl, hle, _⟩ := hx
    exact .same rfl rfl pre ⟨_, append_zero hu hi _ n cap hle a c, hx0⟩
  · rename_i i n full cs a c hi
    cases h
    have hx0 := hx
    simp only [V.R] at hx hy
    subst hy
    obtain ⟨b, cap, rfl, hle, _⟩ := hx
    exact .same rfl rfl pre ⟨_, append_zero hu hi _ n cap hle a c, hx0⟩
  · cases h

theorem more_sound {o : Oper} {e : Operand → V} {ρ : Operand → Value} (hρ : ∀ v, ρ (.const v) = v) (h : evMore P e hp o.op = some out) (hops : ∀ x ∈ o.op.operands, V.R P I μ w (e x) (ρ x)) (pre : Pre P I μ w hp out.acc out.hp.length) :
    ∃ val w' μ', (execOp ρ o).run P w = .ok (.value val) w' ∧ V.R P I μ' w' out.v val ∧ Good P I I μ μ' w w' hp out.hp out.acc out.wr := by
  have fin : ∀ s : Sem Value, (execOp ρ o).run P w = (do pure (.value (← s)) : Sem Next).run P w → DoesP P I μ w hp out s → ∃ val w' μ', (execOp ρ o).run P w = .ok (.value val) w' ∧ V.R P I μ' w' out.v val ∧ Good P I I μ μ' w w' hp out.hp out.acc out.wr := by
    intro s hs ⟨val, w', μ', h1, h2, h3⟩
    exact ⟨val, w', μ', by rw [hs]; simp only [Sem.run_bind, h1, Result.andThen_ok, Sem.run_pure], h2, h3⟩
  unfold evMore at h
  split at h <;> first | (rename_i hop; rw [hop] at hops) | skip
  · rename_i op t x y yt
    have hx := hops x (by simp [Op.operands])
    split at h
    · rename_i hn
      have hy : ρ y = .slice none 0 0 := by
        unfold nilC at hn
        split at hn
        · exact hρ _
        · cases hn
      split at h
      · rename_i e b hu hv
        cases h
        refine fin (do eqGuard .eql t x y (ρ x) (ρ y); binOp .eql t (ρ x) (ρ y)) (by simp only [execOp, hop]) (.same rfl rfl pre ⟨_, nil_sound hu hv hx hy (.inl rfl), by simp [V.R]⟩)
      · rename_i e b hu hv
        cases h
        refine fin (do eqGuard .neq t x y (ρ x) (ρ y); binOp .neq t (ρ x) (ρ y)) (by simp only [execOp, hop]) (.same rfl rfl pre ⟨_, nil_sound hu hv hx hy (.inr rfl), by simp [V.R]⟩)
      · cases h
    · have hy := hops y (by simp [Op.operands])
      split at h
      · rename_i k a k' b hex hey
        split at h
        · rename_i hb
          cases h
          rw [hex] at hx
          rw [hey] at hy
          simp only [V.R] at hx hy
          refine fin (do eqGuard .shr t x y (ρ x) (ρ y); binOp .shr t (ρ x) (ρ y)) (by simp only [execOp, hop]) (.same rfl rfl pre ⟨.int k (a.fdiv (2 ^ min b.toNat k.bits)), ?_, by simp [V.R]⟩)
          rw [hx, hy, Sem.run_bind, guard_int]
          simp only [Result.andThen_ok, binOp, Op.shift]
          rw [if_neg (by omega)]
          rfl
        · cases h
      · rename_i k a k' b hex hey
        split at h
        · rename_i hb
          cases h
          rw [hex] at hx
          rw [hey] at hy
          simp only [V.R] at hx hy
          refine fin (do eqGuard .shl t x y (ρ x) (ρ y); binOp .shl t (ρ x) (ρ y)) (by simp only [execOp, hop]) (.same rfl rfl pre ⟨.int k (k.wrap (a * 2 ^ min b.toNat k.bits)), ?_, by simp [V.R]⟩)
          rw [hx, hy, Sem.run_bind, guard_int]
          simp only [Result.andThen_ok, binOp, Op.shift]
          rw [if_neg (by omega)]
          rfl
        · cases h
      · cases h
  · rename_i c
    have hargs : ∀ x ∈ c.args, V.R P I μ w (e x) (ρ x) := fun x hx => hops x (by simp only [Op.operands, Call.operands]; exact Array.mem_append.2 (.inr hx))
    split at h
    · rename_i s x t t' hcal ha hat
      have ha' : c.args = #[s, x] := by cases hca : c.args; rw [hca] at ha; simp at ha; simp [ha]
      have hat' : c.argTypes = #[t, t'] := by cases hca : c.argTypes; rw [hca] at hat; simp at hat; simp [hat]
      rw [ha'] at hargs
      refine fin (Builtin.append_ #[t, t'] o.type #[ρ s, ρ x]) ?_ (app0_sound h (hargs s (by simp)) (hargs x (by simp)) pre)
      simp only [execOp, hop, resolve, hcal, ha', hat', invoke, builtin, Sem.run_bind, Sem.run_pure, Result.andThen_ok, List.map_toArray, List.map_cons, List.map_nil]
    · rename_i x t hcal ha hat
      have ha' : c.args = #[x] := by cases hca : c.args; rw [hca] at ha; simp at ha; simp [ha]
      have hat' : c.argTypes = #[t] := by cases hca : c.argTypes; rw [hca] at hat; simp at hat; simp [hat]
      rw [ha'] at hargs
      refine fin (Builtin.clear_ #[t] o.type #[ρ x]) ?_ (clear_sound h (hargs x (by simp)) pre)
      simp only [execOp, hop, resolve, hcal, ha', hat', invoke, builtin, Sem.run_bind, Sem.run_pure, Result.andThen_ok, List.map_toArray, List.map_cons, List.map_nil]
    · cases h
  · cases h

end
end Go.Proofs.YtlimecojoiimaaaGreat

/-
  The small evaluator's plain operations: one law for all.
-/
import Derived.Test.YtlimecojoiimaaaGreatUg
namespace Go.Proofs.YtlimecojoiimaaaGreat
open Go.RowKit

section
variable {P : Program} {I : Nat → Prop} {μ μ' : Mu} {w w' : World} {hp : Hp} {out : Out}

theorem at_lt {b : Nat} {x : Option Blk} (h : hp[b]? = some x) : b < hp.length := (List.getElem?_eq_some_iff.1 h).1

theorem cons_lt {b : Nat} {bs : List Nat} (h : b < hp.length) (hs : ∀ c ∈ bs, c < hp.length) : ∀ c ∈ b :: bs, c < hp.length := by
  intro c hc
  rcases List.mem_cons.1 hc with rfl | hc
  · exact h
  · exact hs c hc

theorem load_tidy {t : TypeId} {x : V} (h : evLoad P hp t x = some out) : Tidy hp out.hp out.acc out.wr := by
  unfold evLoad at h
  split at h
  case h_3 => cases h
  case h_2 =>
    split at h
    case h_2 => cases h
    split at h
    · split at h
      · cases h; exact .same hp (by simp)
      · cases h
    · split at h
      · cases h; exact .same hp (by simp)
      · cases h
  split at h
  case h_2 => cases h
  rename_i hb _ _
  split at h
  · split at h
    · cases h; exact .same hp (by simpa using at_lt hb)
    · cases h
  · split at h
    · cases h; exact .same hp (by simpa using at_lt hb)
    · cases h
theorem store_tidy {t : TypeId} {x y : V} (h : evStore P hp t x y = some out) : Tidy hp out.hp out.acc out.wr := by
  unfold evStore at h
  split at h
  case h_2 => cases h
  split at h
  case h_2 => cases h
  rename_i hb _
  split at h
  · split at h
    · cases h
      exact ⟨by simp, fun c hc hn => by rw [List.getElem?_set_ne (fun e => hn (by simp [e]))], by simp, by simpa using at_lt hb, by intro c hc; obtain rfl := List.mem_singleton.1 hc; exact ⟨_, hb⟩⟩
    · cases h
  · cases h
theorem src_tidy {size : Nat} {x : V} {bs : List Nat} {m : Nat} {news : List V} (h : srcV hp size x = some (bs, m, news)) : ∀ b ∈ bs, b < hp.length := by
  unfold srcV at h
  split at h
  · split at h
    · rename_i hb
      split at h
      · cases h; simpa using at_lt hb
      · cases h
    · cases h
  · split at h
    · cases h; simp
    · cases h
  · cases h
theorem append_tidy {t t' : TypeId} {x y : V} (h : evAppend P hp t t' x y = some out) : Tidy hp out.hp out.acc out.wr := by
  unfold evAppend at h
  split at h
  case h_2 => cases h
  split at h
  case h_2 => cases h
  split at h
  case h_2 => cases h
  split at h
  case isFalse => cases h
  split at h
  case h_2 => cases h
  rename_i hsrc
  have hs := src_tidy hsrc
  split at h
  · split at h
    case h_2 => cases h
    rename_i hb
    have hbl := at_lt hb
    split at h
    case isFalse => cases h
    cases h
    refine ⟨by simp, fun c hc hn => ?_, by simp, cons_lt hbl hs, by intro c hc; obtain rfl := List.mem_singleton.1 hc; exact ⟨_, hb⟩⟩
    rw [List.getElem?_append_left (by simpa using hc), List.getElem?_set_ne (fun e => hn (by simp [e]))]
  · split at h
    · cases h; exact .same hp hs
    · split at h
      · cases h; exact .new hp _ hs
      · cases h
  · cases h
theorem conv_tidy {s d : TypeId} {x : V} (h : evConv P hp s d x = some out) : Tidy hp out.hp out.acc out.wr := by
  unfold evConv at h
  split at h
  · split at h
    · cases h; exact .same hp (by simp)
    · cases h
  · split at h
    · cases h; exact .same hp (by simp)
    · split at h
      · split at h
        · cases h; exact .new hp _ (by simp)
        · cases h
      · cases h
    · cases h
  · split at h
    · split at h
      · rename_i hb
        split at h
        · split at h
          · cases h; exact .same hp (by simpa using at_lt hb)
          · cases h
        · cases h
      · cases h
    · cases h
  · split at h
    · split at h
      · split at h
        · split at h
          · cases h; exact .same hp (by simp)
          · cases h
        · cases h
      · cases h
    · cases h
  · cases h
theorem slice_tidy {t : TypeId} {x : V} {lo hi mx : Option V} (h : evSlice P hp t x lo hi mx = some out) : Tidy hp out.hp out.acc out.wr := by
  unfold evSlice at h
  split at h
  · split at h
    · split at h
      · cases h; exact .same hp (by simp)
      · cases h
    · cases h
  · split at h
    · rename_i hb
      split at h
      · split at h
        · cases h; exact .same hp (by simpa using at_lt hb)
        · split at h <;> (cases h; exact .same hp (by simpa using at_lt hb))
      · cases h
    · cases h
  · split at h
    · rename_i hb
      split at h
      · split at h
        · split at h <;> (cases h; exact .same hp (by simpa using at_lt hb))
        · cases h
      · cases h
    · cases h
  · split at h
    · split at h
      · cases h; exact .same hp (by simp)
      · cases h
    · cases h
  · split at h
    · split at h
      · split at h
        · cases h; exact .same hp (by simp)
        · cases h
      · cases h
    · cases h
  · cases h

theorem plain_tidy {e : Operand → V} {op : Op} (h : evPlain P e hp op = some out) : Tidy hp out.hp out.acc out.wr := by
  unfold evPlain at h
  split at h
  · cases h; exact .same hp (by simp)
  · cases h; exact .same hp (by simp)
  · split at h
    · cases h; exact .same hp (by simp)
    · cases h
  · unfold evAlloc at h
    split at h
    · cases h; exact .new hp _ (by simp)
    · cases h
  · unfold evBox at h
    split at h
    · cases h; exact .new hp _ (by simp)
    · cases h
  · unfold evBuild at h
    split at h
    · split at h
      · split at h
        · cases h; exact .same hp (by simp)
        · cases h
      · cases h
    · cases h
  · unfold evBuildSlice at h
    split at h
    · split at h
      · split at h
        · split at h
          · split at h
            · cases h; exact .new hp _ (by simp)
            · cases h
          · cases h
        · cases h
      · cases h
    · cases h
  · exact load_tidy h
  · exact store_tidy h
  · split at h
    · cases h; exact .same hp (by simp)
    · cases h; exact .same hp (by simp)
    · cases h
  · obtain ⟨v, _, rfl⟩ := Option.map_eq_some_iff.1 h; exact .same hp (by simp)
  · obtain ⟨v, _, rfl⟩ := Option.map_eq_some_iff.1 h; exact .same hp (by simp)
  · exact conv_tidy h
  · split at h
    · cases h; exact .same hp (by simp)
    · cases h
  · unfold evMakeSlice at h
    split at h
    · split at h
      · split at h
        · split at h
          · split at h
            · cases h; exact .new hp _ (by simp)
            · cases h
          · cases h
        · cases h
      · cases h
    · cases h
  · exact slice_tidy h
  · split at h
    · split at h
      · cases h; exact .same hp (by simp)
      · cases h
    · split at h
      · cases h; exact .same hp (by simp)
      · cases h
    · cases h
  · split at h
    · obtain ⟨v, _, rfl⟩ := Option.map_eq_some_iff.1 h; exact .same hp (by simp)
    · cases h
  · split at h
    · split at h
      · split at h
        · cases h; exact .same hp (by simp)
        · cases h
      · cases h
    · split at h
      · split at h
        · cases h; exact .same hp (by simp)
        · cases h
      · cases h
    · cases h
  · obtain ⟨v, _, rfl⟩ := Option.map_eq_some_iff.1 h; exact .same hp (by simp)
  · split at h
    · obtain ⟨v, _, rfl⟩ := Option.map_eq_some_iff.1 h; exact .same hp (by simp)
    · cases h
  · split at h
    · exact append_tidy h
    · unfold evLen at h
      split at h
      case h_4 => cases h
      all_goals
        split at h
        · cases h; exact .same hp (by simp)
        · cases h
    · obtain ⟨v, _, rfl⟩ := Option.map_eq_some_iff.1 h; exact .same hp (by simp)
    · obtain ⟨v, _, rfl⟩ := Option.map_eq_some_iff.1 h; exact .same hp (by simp)
    · cases h
  · cases h

/-- What an operation that needs no walk comes to. -/
def DoesP (P : Program) (I : Nat → Prop) (μ : Mu) (w : World) (hp : Hp) (out : Out) (s : Sem Value) : Prop :=
  ∃ val w' μ', s.run P w = .ok val w' ∧ V.R P I μ' w' out.v val ∧ Good P I I μ μ' w w' hp out.hp out.acc out.wr

theorem DoesP.same {s : Sem Value} (h1 : out.hp = hp) (h2 : out.wr = []) (pre : Pre P I μ w hp out.acc out.hp.length) (h : ∃ val, s.run P w = .ok val w ∧ V.R P I μ w out.v val) : DoesP P I μ w hp out s := by
  obtain ⟨val, h3, h4⟩ := h
  refine ⟨val, w, μ, h3, h4, ?_⟩
  rw [h1, h2]
  rw [h1] at pre
  exact Good.same hp pre

theorem RL_map {e : Operand → V} {ρ : Operand → Value} : ∀ {l : List Operand}, (∀ x ∈ l, V.R P I μ w (e x) (ρ x)) → V.RL P I μ w (l.map e) (l.map ρ)
  | [], _ => by simp [V.RL]
  | x :: l, h => by simp only [List.map_cons, V.RL]; exact ⟨_, _, rfl, h x (by simp), RL_map fun y hy => h y (by simp [hy])⟩
theorem Parts_map {e : Operand → V} {ρ : Operand → Value} : ∀ {l : List (Nat × Operand)}, (∀ x ∈ l, V.R P I μ w (e x.2) (ρ x.2)) → Parts P I μ w (l.map fun p => (p.1, e p.2)) (l.map fun p => (p.1, ρ p.2))
  | [], _ => .nil
  | x :: l, h => .cons (h x (by simp)) (Parts_map fun y hy => h y (by simp [hy]))
theorem OptR_map {e : Operand → V} {ρ : Operand → Value} {o : Option Operand} (h : ∀ x, o = some x → V.R P I μ w (e x) (ρ x)) : OptR P I μ w (o.map e) (o.map ρ) := by
  cases o with
  | none => rfl
  | some x => exact ⟨_, rfl, h x rfl⟩

theorem part_sound {t : TypeId} {cs : List V} {off : Nat} {v : V} {vs : Array Value} (h : partV P t cs off = some v) (hr : V.RL P I μ w cs vs.toList) : ∃ val, (part t vs off).run P w = .ok val w ∧ V.R P I μ w v val := by
  unfold partV at h
  split at h
  case h_2 => cases h
  case h_1 d s hu hs =>
  split at h
  · rename_i hd
    cases h
    refine ⟨.agg (vs.extract off (off + s)), ?_, ?_⟩
    · simp only [part, Sem.run_bind, run_isAgg hu, Result.andThen_ok, hd, if_true, run_sizeOf hs, Sem.run_pure]
    · simp only [V.R]
      refine ⟨_, rfl, ?_⟩
      have := (hr.drop off).take s
      simpa [List.extract_eq_take_drop, List.take_drop] using this
  · rename_i hd
    obtain ⟨u, hu2, hru⟩ := hr.get h
    refine ⟨u, ?_, hru⟩
    rw [Array.getElem?_toList] at hu2
    simp only [part, Sem.run_bind, run_isAgg hu, Result.andThen_ok, hd, Bool.false_eq_true, if_false, hu2, Sem.run_pure]

theorem plain_sound {o : Oper} {e : Operand → V} {ρ : Operand → Value} (h : evPlain P e hp o.op = some out) (hops : ∀ x ∈ o.op.operands, V.R P I μ w (e x) (ρ x)) (pre : Pre P I μ w hp out.acc out.hp.length) :
    ∃ nx val w' μ', (execOp ρ o).run P w = .ok nx w' ∧ (nx = .value val ∨ nx = .skip ∧ val = undef) ∧ V.R P I μ' w' out.v val ∧ Good P I I μ μ' w w' hp out.hp out.acc out.wr := by
  have fin : ∀ s : Sem Value, execOp ρ o = (do pure (.value (← s)) : Sem Next) → DoesP P I μ w hp out s → ∃ nx val w' μ', (execOp ρ o).run P w = .ok nx w' ∧ (nx = .value val ∨ nx = .skip ∧ val = undef) ∧ V.R P I μ' w' out.v val ∧ Good P I I μ μ' w w' hp out.hp out.acc out.wr := by
    intro s hs ⟨val, w', μ', h1, h2, h3⟩
    exact ⟨.value val, val, w', μ', by rw [hs]; simp only [Sem.run_bind, h1, Result.andThen_ok, Sem.run_pure], .inl rfl, h2, h3⟩
  have fin2 : ∀ s : Sem Value, (execOp ρ o).run P w = (do pure (.value (← s)) : Sem Next).run P w → DoesP P I μ w hp out s → ∃ nx val w' μ', (execOp ρ o).run P w = .ok nx w' ∧ (nx = .value val ∨ nx = .skip ∧ val = undef) ∧ V.R P I μ' w' out.v val ∧ Good P I I μ μ' w w' hp out.hp out.acc out.wr := by
    intro s hs ⟨val, w', μ', h1, h2, h3⟩
    exact ⟨.value val, val, w', μ', by rw [hs]; simp only [Sem.run_bind, h1, Result.andThen_ok, Sem.run_pure], .inl rfl, h2, h3⟩
  unfold evPlain at h
  split at h <;> first | (rename_i hop; rw [hop] at hops) | skip
  · cases h
    exact ⟨.value (ρ _), ρ _, w, μ, by simp only [execOp, hop, Sem.run_pure], .inl rfl, hops _ (by simp [Op.operands]), Good.same hp pre⟩
  · cases h
    exact ⟨.value (ρ _), ρ _, w, μ, by simp only [execOp, hop, Sem.run_pure], .inl rfl, hops _ (by simp [Op.operands]), Good.same hp pre⟩
  · rename_i c a b
    split at h
    · rename_i t ht
      cases h
      have hc := hops c (by simp [Op.operands])
      rw [ht] at hc
      simp only [V.R] at hc
      refine ⟨.value (if t then ρ a else ρ b), _, w, μ, by simp only [execOp, hop, hc, asBool, Sem.run_bind, Sem.run_pure, Result.andThen_ok], .inl rfl, ?_, Good.same hp pre⟩
      cases t
      · exact hops b (by simp [Op.operands])
      · exact hops a (by simp [Op.operands])
    · cases h
  · exact fin _ (by simp only [execOp, hop]) (alloc_sound h pre)
  · exact fin _ (by simp only [execOp, hop]) (box_sound h (hops _ (by simp [Op.operands])) pre)
  · rename_i t ps
    obtain ⟨h1, h2, h3, h4⟩ := build_sound (vs := ps.map fun (i, x) => (i, ρ x)) h (by
      rw [Array.toList_map]
      exact Parts_map fun x hx => hops _ (by simp only [Op.operands, List.mem_toArray, List.mem_map]; exact ⟨x, hx, rfl⟩))
    exact fin _ (by simp only [execOp, hop]) (.same h1 h2 pre h4)
  · rename_i t n ps
    exact fin _ (by simp only [execOp, hop]) (buildSlice_sound (vs := ps.map fun (i, x) => (i, ρ x)) h (by
      rw [Array.toList_map]
      exact Parts_map fun x hx => hops _ (by simp only [Op.operands, List.mem_toArray, List.mem_map]; exact ⟨x, hx, rfl⟩)) pre)
  · obtain ⟨h1, h2, _, h4⟩ := load_sound h (hops _ (by simp [Op.operands])) pre
    exact fin _ (by simp only [execOp, hop]) (.same h1 h2 pre h4)
  · obtain ⟨w', h1, h2, h3⟩ := store_sound h (hops _ (by simp [Op.operands])) (hops _ (by simp [Op.operands])) pre
    exact ⟨.skip, undef, w', μ, by simp only [execOp, hop, Sem.run_bind, h1, Result.andThen_ok, Sem.run_pure], .inr ⟨rfl, rfl⟩, by rw [h2]; simp [V.R], h3⟩
  · rename_i x
    split at h
    · rename_i b off hx
      cases h
      have hc := hops x (by simp [Op.operands])
      rw [hx] at hc
      have hc' := hc
      simp only [V.R] at hc'
      obtain ⟨g, _, hv⟩ := hc'
      refine ⟨.value (ρ x), _, w, μ, by simp only [execOp, hop]; rw [hv]; rfl, .inl rfl, hc, Good.same hp pre⟩
    · rename_i cs hx
      cases h
      have hc := hops x (by simp [Op.operands])
      rw [hx] at hc
      have hc' := hc
      simp only [V.R] at hc'
      obtain ⟨g, off, hv, _⟩ := hc'
      refine ⟨.value (ρ x), _, w, μ, by simp only [execOp, hop]; rw [hv]; rfl, .inl rfl, hc, Good.same hp pre⟩
    · cases h
  · rename_i op t x y yt
    obtain ⟨v, hv, rfl⟩ := Option.map_eq_some_iff.1 h
    exact fin (do eqGuard op t x y (ρ x) (ρ y); binOp op t (ρ x) (ρ y)) (by simp only [execOp, hop]) (.same rfl rfl pre (bin_sound hv (hops _ (by simp [Op.operands])) (hops _ (by simp [Op.operands]))))
  · obtain ⟨v, hv, rfl⟩ := Option.map_eq_some_iff.1 h
    exact fin _ (by simp only [execOp, hop]) (.same rfl rfl pre (un_sound hv (hops _ (by simp [Op.operands]))))
  · exact fin _ (by simp only [execOp, hop]) (conv_sound h (hops _ (by simp [Op.operands])) pre)
  · rename_i f first cap
    split at h
    · rename_i hf
      cases h
      have hf' : first = #[] := by cases first; simp_all
      refine fin (Instr.makeFunc (.func f) (first.map ρ) (cap.map ρ)) (by simp only [execOp, hop]) (.same rfl rfl pre ⟨.func (.func f) (first.map ρ) (cap.map ρ), rfl, ?_⟩)
      simp only [V.R, hf', Array.map_empty]
      refine ⟨_, rfl, ?_⟩
      rw [Array.toList_map]
      exact RL_map fun x hx => hops x (by simp only [Op.operands]; exact Array.mem_append.2 (.inr (by simpa using hx)))
    · cases h
  · exact fin _ (by simp only [execOp, hop]) (makeSlice_sound h (hops _ (by simp [Op.operands])) (hops _ (by simp [Op.operands])) pre)
  · rename_i t x lo hi mx
    obtain ⟨h1, h2, _, h4⟩ := slice_sound h (hops _ (by simp [Op.operands])) (OptR_map (ρ := ρ) fun y hy => hops y (by simp [Op.operands, hy])) (OptR_map (ρ := ρ) fun y hy => hops y (by simp [Op.operands, hy])) (OptR_map (ρ := ρ) fun y hy => hops y (by simp [Op.operands, hy])) pre
    exact fin _ (by simp only [execOp, hop]) (.same h1 h2 pre h4)
  · rename_i t x f
    split at h
    case h_3 => cases h
    case h_2 cs fd hx hfd =>
      split at h
      case h_2 => cases h
      case h_1 s hs =>
      cases h
      have hc := hops x (by simp [Op.operands])
      rw [hx] at hc
      simp only [V.R] at hc
      obtain ⟨g, off, hv, hmem⟩ := hc
      unfold fieldOf at hfd
      split at hfd
      case h_2 => cases hfd
      case h_1 fields hu =>
      refine fin (Instr.fieldAt t (ρ x) f) (by simp only [execOp, hop]) (.same rfl rfl pre ⟨.pointer (some ⟨g, off + fd.offset, none⟩), ?_, ?_⟩)
      · simp only [hv, Instr.fieldAt, Sem.run_bind, run_underlying hu, Result.andThen_ok, hfd, Instr.sureAddr, Sem.run_pure, fieldPlace, run_sizeOf hs]
        rw [if_neg (by omega)]
        simp [Addr.add_mid]
      · simp only [V.R]; exact ⟨g, off + fd.offset, rfl, memDrop hmem⟩
    case h_1 b off fd hx hfd =>
    split at h
    case h_2 => cases h
    case h_1 s hs =>
    cases h
    have hc := hops x (by simp [Op.operands])
    rw [hx] at hc
    simp only [V.R] at hc
    obtain ⟨g, hg, hv⟩ := hc
    unfold fieldOf at hfd
    split at hfd
    case h_2 => cases hfd
    case h_1 fields hu =>
    refine fin (Instr.fieldAt t (ρ x) f) (by simp only [execOp, hop]) (.same rfl rfl pre ⟨.pointer (some ⟨g, off + fd.offset, none⟩), ?_, ?_⟩)
    · simp only [hv, Instr.fieldAt, Sem.run_bind, run_underlying hu, Result.andThen_ok, hfd, Instr.sureAddr, Sem.run_pure, fieldPlace, run_sizeOf hs]
      rw [if_neg (by omega)]
      simp [Addr.add_mid]
    · simp only [V.R]; exact ⟨g, hg, rfl⟩
  · rename_i t x f
    split at h
    case h_2 => cases h
    case h_1 cs fd hx hfd =>
    obtain ⟨v, hv, rfl⟩ := Option.map_eq_some_iff.1 h
    have hc := hops x (by simp [Op.operands])
    rw [hx] at hc
    simp only [V.R] at hc
    obtain ⟨vs, hvs, hrl⟩ := hc
    unfold fieldOf at hfd
    split at hfd
    case h_2 => cases hfd
    case h_1 fields hu =>
    obtain ⟨val, h1, h2⟩ := part_sound hv hrl
    refine fin (Instr.field t (ρ x) f) (by simp only [execOp, hop]) (.same rfl rfl pre ⟨val, ?_, h2⟩)
    simp only [hvs, Instr.field, Sem.run_bind, run_underlying hu, Result.andThen_ok, hfd, asAgg, Sem.run_pure, h1]
  · rename_i t x i
    split at h
    case h_3 => cases h
    case h_2 n full cs k ii el hx hi hu =>
      split at h
      case h_2 => cases h
      case h_1 s hs =>
      split at h
      case isFalse => cases h
      case isTrue hin =>
      cases h
      have hc := hops x (by simp [Op.operands])
      have hci := hops i (by simp [Op.operands])
      rw [hx] at hc
      rw [hi] at hci
      simp only [V.R] at hc hci
      obtain ⟨a, cap, hv, hnc, _, hadr, hmem⟩ := hc
      rcases hadr with ⟨_, h0⟩ | ⟨g, off, rfl⟩
      · omega
      have hmem : cs = [] ∨ I g ∧ ∃ cells e fr, w.heap[g]? = some (.cells cells e fr) ∧ V.RL P I noMu w cs ((cells.toList.drop off).take cs.length) := by
        rcases hmem with h | ⟨g', off', he, hm⟩
        · exact .inl h
        · cases he; exact .inr hm
      refine fin (Instr.indexAt t (ρ x) (ρ i)) (by simp only [execOp, hop]) (.same rfl rfl pre ⟨.pointer (some ⟨g, off + ii.toNat * s, none⟩), ?_, ?_⟩)
      · simp only [hv, hci, Instr.indexAt, Sem.run_bind, asIntOf, run_underlying hu, Result.andThen_ok, Sem.run_pure, hin, and_self, if_true, run_sizeOf hs, Addr.add_mid]
      · simp only [V.R]; exact ⟨g, _, rfl, memDrop hmem⟩
    case h_1 b off n full k ii el hx hi hu =>
    split at h
    case h_2 => cases h
    case h_1 s hs =>
    split at h
    case isFalse => cases h
    case isTrue hin =>
    cases h
    have hc := hops x (by simp [Op.operands])
    have hci := hops i (by simp [Op.operands])
    rw [hx] at hc
    rw [hi] at hci
    simp only [V.R] at hc hci
    obtain ⟨g, cap, e', N, inf, hg, hv, _⟩ := hc
    refine fin (Instr.indexAt t (ρ x) (ρ i)) (by simp only [execOp, hop]) (.same rfl rfl pre ⟨.pointer (some ⟨g, off + ii.toNat * s, none⟩), ?_, ?_⟩)
    · simp only [hv, hci, Instr.indexAt, Sem.run_bind, asIntOf, run_underlying hu, Result.andThen_ok, Sem.run_pure, hin, and_self, if_true, run_sizeOf hs, Addr.add_mid]
    · simp only [V.R]; exact ⟨g, hg, rfl⟩
  · rename_i t x i
    obtain ⟨v, hv, rfl⟩ := Option.map_eq_some_iff.1 h
    have hc := hops x (by simp [Op.operands])
    have hci := hops i (by simp [Op.operands])
    unfold evIndex at hv
    split at hv
    case h_2 => cases hv
    case h_1 l k ii hx hi =>
    rw [hx] at hc
    rw [hi] at hci
    simp only [V.R] at hc hci
    split at hv
    case h_2 => cases hv
    case h_1 hu =>
    split at hv
    case isFalse => cases hv
    case isTrue h0 =>
    obtain ⟨b, hb, rfl⟩ := Option.map_eq_some_iff.1 hv
    obtain ⟨hlt, hbe⟩ := List.getElem?_eq_some_iff.1 hb
    refine fin (Instr.index t (ρ x) (ρ i)) (by simp only [execOp, hop]) (.same rfl rfl pre ⟨.int .u8 b.toNat, ?_, by simp [V.R]⟩)
    rw [hc, hci, run_index_string w t _ k ii hu]
    have hsz : (⟨l.toArray⟩ : ByteArray).size = l.length := rfl
    rw [dif_pos ⟨h0, by rw [hsz]; omega⟩]
    have : (⟨l.toArray⟩ : ByteArray)[ii.toNat]'(by rw [hsz]; omega) = b := by rw [← hbe]; rfl
    rw [this]
  · rename_i x i
    split at h
    case h_2 => cases h
    case h_1 vs hx =>
    obtain ⟨v, hv, rfl⟩ := Option.map_eq_some_iff.1 h
    have hc := hops x (by simp [Op.operands])
    rw [hx] at hc
    simp only [V.R] at hc
    obtain ⟨us, hus, hrl⟩ := hc
    obtain ⟨u, hu, hr⟩ := hrl.get hv
    refine fin (Instr.extract (ρ x) i) (by simp only [execOp, hop]) (.same rfl rfl pre ⟨u, ?_, hr⟩)
    rw [Array.getElem?_toList] at hu
    simp only [hus, Instr.extract, hu, Sem.run_pure]
  · rename_i c
    have hargs : ∀ x ∈ c.args, V.R P I μ w (e x) (ρ x) := fun x hx => hops x (by simp only [Op.operands, Call.operands]; exact Array.mem_append.2 (.inr hx))
    split at h
    · rename_i s x t t' hcal ha hat
      have ha' : c.args = #[s, x] := by cases hca : c.args; rw [hca] at ha; simp at ha; simp [ha]
      have hat' : c.argTypes = #[t, t'] := by cases hca : c.argTypes; rw [hca] at hat; simp at hat; simp [hat]
      rw [ha'] at hargs
      refine fin2 (Builtin.append_ #[t, t'] o.type #[ρ s, ρ x]) ?_ (append_sound h (hargs s (by simp)) (hargs x (by simp)) pre)
      simp only [execOp, hop, resolve, hcal, ha', hat', invoke, builtin, Sem.run_bind, Sem.run_pure, Result.andThen_ok, List.map_toArray, List.map_cons, List.map_nil]
    · rename_i x t hcal ha hat
      have ha' : c.args = #[x] := by cases hca : c.args; rw [hca] at ha; simp at ha; simp [ha]
      have hat' : c.argTypes = #[t] := by cases hca : c.argTypes; rw [hca] at hat; simp at hat; simp [hat]
      rw [ha'] at hargs
      obtain ⟨h1, h2, _, h4⟩ := len_sound (ty := o.type) h (hargs x (by simp))
      refine fin2 (Builtin.len_ #[t] o.type #[ρ x]) ?_ (.same h1 h2 pre h4)
      simp only [execOp, hop, resolve, hcal, ha', hat', invoke, builtin, Sem.run_bind, Sem.run_pure, Result.andThen_ok, List.map_toArray, List.map_cons, List.map_nil]
    · rename_i x y hcal ha
      have ha' : c.args = #[x, y] := by cases hca : c.args; rw [hca] at ha; simp at ha; simp [ha]
      rw [ha'] at hargs
      obtain ⟨v, hv, rfl⟩ := Option.map_eq_some_iff.1 h
      have h1 := hargs x (by simp)
      have h2 := hargs y (by simp)
      unfold evMin at hv
      split at hv
      case h_2 => cases hv
      rename_i k a k' b hx hy
      cases hv
      rw [hx] at h1
      rw [hy] at h2
      simp only [V.R] at h1 h2
      refine fin2 (Builtin.min_ c.argTypes o.type #[ρ x, ρ y]) ?_ (.same rfl rfl pre ⟨.int k (if b < a then b else a), ?_, by simp only [V.R]⟩)
      · simp only [execOp, hop, resolve, hcal, ha', invoke, builtin, Sem.run_bind, Sem.run_pure, Result.andThen_ok, List.map_toArray, List.map_cons, List.map_nil]
      · rw [h1, h2]; simp [Builtin.min_, Builtin.min2]
    · rename_i x y hcal ha
      have ha' : c.args = #[x, y] := by cases hca : c.args; rw [hca] at ha; simp at ha; simp [ha]
      rw [ha'] at hargs
      obtain ⟨v, hv, rfl⟩ := Option.map_eq_some_iff.1 h
      have h1 := hargs x (by simp)
      have h2 := hargs y (by simp)
      unfold evMax at hv
      split at hv
      case h_2 => cases hv
      rename_i k a k' b hx hy
      cases hv
      rw [hx] at h1
      rw [hy] at h2
      simp only [V.R] at h1 h2
      refine fin2 (Builtin.max_ c.argTypes o.type #[ρ x, ρ y]) ?_ (.same rfl rfl pre ⟨.int k (if b > a then b else a), ?_, by simp only [V.R]⟩)
      · simp only [execOp, hop, resolve, hcal, ha', invoke, builtin, Sem.run_bind, Sem.run_pure, Result.andThen_ok, List.map_toArray, List.map_cons, List.map_nil]
      · rw [h1, h2]; simp [Builtin.max_, Builtin.max2]
    · cases h
  · cases h

end
end Go.Proofs.YtlimecojoiimaaaGreat

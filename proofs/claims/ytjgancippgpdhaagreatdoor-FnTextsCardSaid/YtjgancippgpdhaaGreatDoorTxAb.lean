/-
  The small evaluator's plain operations: one law for all.
  The small evaluator: some more operations.
  The small evaluator: calls, regions, code, functions.
  The small evaluator: renaming and calls do what the machine does.
  The small evaluator: one operation of a region; the regions.
  The small evaluator: a region in whatever order.
  The small evaluator: regions.
  The small evaluator: code and functions.
-/
import Derived.Test.YtjgancippgpdhaaGreatDoorTxAa
import Derived.LoopN
import Derived.Orders
namespace Go.Proofs.YtjgancippgpdhaaGreatDoor
open Go.RowKit

section
variable {P : Program} {I : Nat → Prop} {μ μ' : Mu} {w w' : World} {hp : Hp} {out : Out}

theorem at_lt {b : Nat} {x : Option Blk} (h : hp[b]? = some x) : b < hp.length := (List.getElem?_eq_some_iff.1 h).1

theorem cons_lt {b : Nat} {bs : List Nat} (h : b < hp.length) (hs : ∀ c ∈ bs, c < hp.length) : ∀ c ∈ b :: bs, c < hp.length := by
  intro c hc
  rcases List.mem_cons.1 hc with rfl | hc
  · exact h
  · exact hs c hc

theorem load_tidy {t : TypeId} {x : V} (h : evLoad P hp t x = some out) : Tidy hp out.hp out.acc out.wr := by
  unfold evLoad at h
  split at h
  case h_3 => cases h
  case h_2 =>
    split at h
    case h_2 => cases h
    split at h
    · split at h
      · cases h; exact .same hp (by simp)
      · cases h
    · split at h
      · cases h; exact .same hp (by simp)
      · cases h
  split at h
  case h_2 => cases h
  rename_i hb _ _
  split at h
  · split at h
    · cases h; exact .same hp (by simpa using at_lt hb)
    · cases h
  · split at h
    · cases h; exact .same hp (by simpa using at_lt hb)
    · cases h
theorem store_tidy {t : TypeId} {x y : V} (h : evStore P hp t x y = some out) : Tidy hp out.hp out.acc out.wr := by
  unfold evStore at h
  split at h
  case h_2 => cases h
  split at h
  case h_2 => cases h
  rename_i hb _
  split at h
  · split at h
    · cases h
      exact ⟨by simp, fun c hc hn => by rw [List.getElem?_set_ne (fun e => hn (by simp [e]))], by simp, by simpa using at_lt hb, by intro c hc; obtain rfl := List.mem_singleton.1 hc; exact ⟨_, hb⟩⟩
    · cases h
  · cases h
theorem src_tidy {size : Nat} {x : V} {bs : List Nat} {m : Nat} {news : List V} (h : srcV hp size x = some (bs, m, news)) : ∀ b ∈ bs, b < hp.length := by
  unfold srcV at h
  split at h
  · split at h
    · rename_i hb
      split at h
      · cases h; simpa using at_lt hb
      · cases h
    · cases h
  · split at h
    · cases h; simp
    · cases h
  · cases h
theorem append_tidy {t t' : TypeId} {x y : V} (h : evAppend P hp t t' x y = some out) : Tidy hp out.hp out.acc out.wr := by
  unfold evAppend at h
  split at h
  case h_2 => cases h
  split at h
  case h_2 => cases h
  split at h
  case h_2 => cases h
  split at h
  case isFalse => cases h
  split at h
  case h_2 => cases h
  rename_i hsrc
  have hs := src_tidy hsrc
  split at h
  · split at h
    case h_2 => cases h
    rename_i hb
    have hbl := at_lt hb
    split at h
    case isFalse => cases h
    cases h
    refine ⟨by simp, fun c hc hn => ?_, by simp, cons_lt hbl hs, by intro c hc; obtain rfl := List.mem_singleton.1 hc; exact ⟨_, hb⟩⟩
    rw [List.getElem?_append_left (by simpa using hc), List.getElem?_set_ne (fun e => hn (by simp [e]))]
  · split at h
    · cases h; exact .same hp hs
    · split at h
      · cases h; exact .new hp _ hs
      · cases h
  · cases h
theorem conv_tidy {s d : TypeId} {x : V} (h : evConv P hp s d x = some out) : Tidy hp out.hp out.acc out.wr := by
  unfold evConv at h
  split at h
  · split at h
    · cases h; exact .same hp (by simp)
    · cases h
  · split at h
    · cases h; exact .same hp (by simp)
    · split at h
      · split at h
        · cases h; exact .new hp _ (by simp)
        · cases h
      · cases h
    · cases h
  · split at h
    · split at h
      · rename_i hb
        split at h
        · split at h
          · cases h; exact .same hp (by simpa using at_lt hb)
          · cases h
        · cases h
      · cases h
    · cases h
  · split at h
    · split at h
      · split at h
        · split at h
          · cases h; exact .same hp (by simp)
          · cases h
        · cases h
      · cases h
    · cases h
  · cases h
theorem slice_tidy {t : TypeId} {x : V} {lo hi mx : Option V} (h : evSlice P hp t x lo hi mx = some out) : Tidy hp out.hp out.acc out.wr := by
  unfold evSlice at h
  split at h
  · split at h
    · split at h
      · cases h; exact .same hp (by simp)
      · cases h
    · cases h
  · split at h
    · rename_i hb
      split at h
      · split at h
        · cases h; exact .same hp (by simpa using at_lt hb)
        · split at h <;> (cases h; exact .same hp (by simpa using at_lt hb))
      · cases h
    · cases h
  · split at h
    · rename_i hb
      split at h
      · split at h
        · split at h <;> (cases h; exact .same hp (by simpa using at_lt hb))
        · cases h
      · cases h
    · cases h
  · split at h
    · split at h
      · cases h; exact .same hp (by simp)
      · cases h
    · cases h
  · split at h
    · split at h
      · split at h
        · cases h; exact .same hp (by simp)
        · cases h
      · cases h
    · cases h
  · cases h

theorem plain_tidy {e : Operand → V} {op : Op} (h : evPlain P e hp op = some out) : Tidy hp out.hp out.acc out.wr := by
  unfold evPlain at h
  split at h
  · cases h; exact .same hp (by simp)
  · cases h; exact .same hp (by simp)
  · split at h
    · cases h; exact .same hp (by simp)
    · cases h
  · unfold evAlloc at h
    split at h
    · cases h; exact .new hp _ (by simp)
    · cases h
  · unfold evBox at h
    split at h
    · cases h; exact .new hp _ (by simp)
    · cases h
  · unfold evBuild at h
    split at h
    · split at h
      · split at h
        · cases h; exact .same hp (by simp)
        · cases h
      · cases h
    · cases h
  · unfold evBuildSlice at h
    split at h
    · split at h
      · split at h
        · split at h
          · split at h
            · cases h; exact .new hp _ (by simp)
            · cases h
          · cases h
        · cases h
      · cases h
    · cases h
  · exact load_tidy h
  · exact store_tidy h
  · split at h
    · cases h; exact .same hp (by simp)
    · cases h; exact .same hp (by simp)
    · cases h
  · obtain ⟨v, _, rfl⟩ := Option.map_eq_some_iff.1 h; exact .same hp (by simp)
  · obtain ⟨v, _, rfl⟩ := Option.map_eq_some_iff.1 h; exact .same hp (by simp)
  · exact conv_tidy h
  · split at h
    · cases h; exact .same hp (by simp)
    · cases h
  · unfold evMakeSlice at h
    split at h
    · split at h
      · split at h
        · split at h
          · split at h
            · cases h; exact .new hp _ (by simp)
            · cases h
          · cases h
        · cases h
      · cases h
    · cases h
  · exact slice_tidy h
  · split at h
    · split at h
      · cases h; exact .same hp (by simp)
      · cases h
    · split at h
      · cases h; exact .same hp (by simp)
      · cases h
    · cases h
  · split at h
    · obtain ⟨v, _, rfl⟩ := Option.map_eq_some_iff.1 h; exact .same hp (by simp)
    · cases h
  · split at h
    · split at h
      · split at h
        · cases h; exact .same hp (by simp)
        · cases h
      · cases h
    · split at h
      · split at h
        · cases h; exact .same hp (by simp)
        · cases h
      · cases h
    · cases h
  · obtain ⟨v, _, rfl⟩ := Option.map_eq_some_iff.1 h; exact .same hp (by simp)
  · split at h
    · obtain ⟨v, _, rfl⟩ := Option.map_eq_some_iff.1 h; exact .same hp (by simp)
    · cases h
  · split at h
    · exact append_tidy h
    · unfold evLen at h
      split at h
      case h_4 => cases h
      all_goals
        split at h
        · cases h; exact .same hp (by simp)
        · cases h
    · obtain ⟨v, _, rfl⟩ := Option.map_eq_some_iff.1 h; exact .same hp (by simp)
    · obtain ⟨v, _, rfl⟩ := Option.map_eq_some_iff.1 h; exact .same hp (by simp)
    · cases h
  · cases h

/-- What an operation that needs no walk comes to. -/
def DoesP (P : Program) (I : Nat → Prop) (μ : Mu) (w : World) (hp : Hp) (out : Out) (s : Sem Value) : Prop :=
  ∃ val w' μ', s.run P w = .ok val w' ∧ V.R P I μ' w' out.v val ∧ Good P I I μ μ' w w' hp out.hp out.acc out.wr

theorem DoesP.same {s : Sem Value} (h1 : out.hp = hp) (h2 : out.wr = []) (pre : Pre P I μ w hp out.acc out.hp.length) (h : ∃ val, s.run P w = .ok val w ∧ V.R P I μ w out.v val) : DoesP P I μ w hp out s := by
  obtain ⟨val, h3, h4⟩ := h
  refine ⟨val, w, μ, h3, h4, ?_⟩
  rw [h1, h2]
  rw [h1] at pre
  exact Good.same hp pre

theorem RL_map {e : Operand → V} {ρ : Operand → Value} : ∀ {l : List Operand}, (∀ x ∈ l, V.R P I μ w (e x) (ρ x)) → V.RL P I μ w (l.map e) (l.map ρ)
  | [], _ => by simp [V.RL]
  | x :: l, h => by simp only [List.map_cons, V.RL]; exact ⟨_, _, rfl, h x (by simp), RL_map fun y hy => h y (by simp [hy])⟩
theorem Parts_map {e : Operand → V} {ρ : Operand → Value} : ∀ {l : List (Nat × Operand)}, (∀ x ∈ l, V.R P I μ w (e x.2) (ρ x.2)) → Parts P I μ w (l.map fun p => (p.1, e p.2)) (l.map fun p => (p.1, ρ p.2))
  | [], _ => .nil
  | x :: l, h => .cons (h x (by simp)) (Parts_map fun y hy => h y (by simp [hy]))
theorem OptR_map {e : Operand → V} {ρ : Operand → Value} {o : Option Operand} (h : ∀ x, o = some x → V.R P I μ w (e x) (ρ x)) : OptR P I μ w (o.map e) (o.map ρ) := by
  cases o with
  | none => rfl
  | some x => exact ⟨_, rfl, h x rfl⟩

theorem part_sound {t : TypeId} {cs : List V} {off : Nat} {v : V} {vs : Array Value} (h : partV P t cs off = some v) (hr : V.RL P I μ w cs vs.toList) : ∃ val, (part t vs off).run P w = .ok val w ∧ V.R P I μ w v val := by
  unfold partV at h
  split at h
  case h_2 => cases h
  case h_1 d s hu hs =>
  split at h
  · rename_i hd
    cases h
    refine ⟨.agg (vs.extract off (off + s)), ?_, ?_⟩
    · simp only [part, Sem.run_bind, run_isAgg hu, Result.andThen_ok, hd, if_true, run_sizeOf hs, Sem.run_pure]
    · simp only [V.R]
      refine ⟨_, rfl, ?_⟩
      have := (hr.drop off).take s
      simpa [List.extract_eq_take_drop, List.take_drop] using this
  · rename_i hd
    obtain ⟨u, hu2, hru⟩ := hr.get h
    refine ⟨u, ?_, hru⟩
    rw [Array.getElem?_toList] at hu2
    simp only [part, Sem.run_bind, run_isAgg hu, Result.andThen_ok, hd, Bool.false_eq_true, if_false, hu2, Sem.run_pure]

theorem plain_sound {o : Oper} {e : Operand → V} {ρ : Operand → Value} (h : evPlain P e hp o.op = some out) (hops : ∀ x ∈ o.op.operands, V.R P I μ w (e x) (ρ x)) (pre : Pre P I μ w hp out.acc out.hp.length) :
    ∃ nx val w' μ', (execOp ρ o).run P w = .ok nx w' ∧ (nx = .value val ∨ nx = .skip ∧ val = undef) ∧ V.R P I μ' w' out.v val ∧ Good P I I μ μ' w w' hp out.hp out.acc out.wr := by
  have fin : ∀ s : Sem Value, execOp ρ o = (do pure (.value (← s)) : Sem Next) → DoesP P I μ w hp out s → ∃ nx val w' μ', (execOp ρ o).run P w = .ok nx w' ∧ (nx = .value val ∨ nx = .skip ∧ val = undef) ∧ V.R P I μ' w' out.v val ∧ Good P I I μ μ' w w' hp out.hp out.acc out.wr := by
    intro s hs ⟨val, w', μ', h1, h2, h3⟩
    exact ⟨.value val, val, w', μ', by rw [hs]; simp only [Sem.run_bind, h1, Result.andThen_ok, Sem.run_pure], .inl rfl, h2, h3⟩
  have fin2 : ∀ s : Sem Value, (execOp ρ o).run P w = (do pure (.value (← s)) : Sem Next).run P w → DoesP P I μ w hp out s → ∃ nx val w' μ', (execOp ρ o).run P w = .ok nx w' ∧ (nx = .value val ∨ nx = .skip ∧ val = undef) ∧ V.R P I μ' w' out.v val ∧ Good P I I μ μ' w w' hp out.hp out.acc out.wr := by
    intro s hs ⟨val, w', μ', h1, h2, h3⟩
    exact ⟨.value val, val, w', μ', by rw [hs]; simp only [Sem.run_bind, h1, Result.andThen_ok, Sem.run_pure], .inl rfl, h2, h3⟩
  unfold evPlain at h
  split at h <;> first | (rename_i hop; rw [hop] at hops) | skip
  · cases h
    exact ⟨.value (ρ _), ρ _, w, μ, by simp only [execOp, hop, Sem.run_pure], .inl rfl, hops _ (by simp [Op.operands]), Good.same hp pre⟩
  · cases h
    exact ⟨.value (ρ _), ρ _, w, μ, by simp only [execOp, hop, Sem.run_pure], .inl rfl, hops _ (by simp [Op.operands]), Good.same hp pre⟩
  · rename_i c a b
    split at h
    · rename_i t ht
      cases h
      have hc := hops c (by simp [Op.operands])
      rw [ht] at hc
      simp only [V.R] at hc
      refine ⟨.value (if t then ρ a else ρ b), _, w, μ, by simp only [execOp, hop, hc, asBool, Sem.run_bind, Sem.run_pure, Result.andThen_ok], .inl rfl, ?_, Good.same hp pre⟩
      cases t
      · exact hops b (by simp [Op.operands])
      · exact hops a (by simp [Op.operands])
    · cases h
  · exact fin _ (by simp only [execOp, hop]) (alloc_sound h pre)
  · exact fin _ (by simp only [execOp, hop]) (box_sound h (hops _ (by simp [Op.operands])) pre)
  · rename_i t ps
    obtain ⟨h1, h2, h3, h4⟩ := build_sound (vs := ps.map fun (i, x) => (i, ρ x)) h (by
      rw [Array.toList_map]
      exact Parts_map fun x hx => hops _ (by simp only [Op.operands, List.mem_toArray, List.mem_map]; exact ⟨x, hx, rfl⟩))
    exact fin _ (by simp only [execOp, hop]) (.same h1 h2 pre h4)
  · rename_i t n ps
    exact fin _ (by simp only [execOp, hop]) (buildSlice_sound (vs := ps.map fun (i, x) => (i, ρ x)) h (by
      rw [Array.toList_map]
      exact Parts_map fun x hx => hops _ (by simp only [Op.operands, List.mem_toArray, List.mem_map]; exact ⟨x, hx, rfl⟩)) pre)
  · obtain ⟨h1, h2, _, h4⟩ := load_sound h (hops _ (by simp [Op.operands])) pre
    exact fin _ (by simp only [execOp, hop]) (.same h1 h2 pre h4)
  · obtain ⟨w', h1, h2, h3⟩ := store_sound h (hops _ (by simp [Op.operands])) (hops _ (by simp [Op.operands])) pre
    exact ⟨.skip, undef, w', μ, by simp only [execOp, hop, Sem.run_bind, h1, Result.andThen_ok, Sem.run_pure], .inr ⟨rfl, rfl⟩, by rw [h2]; simp [V.R], h3⟩
  · rename_i x
    split at h
    · rename_i b off hx
      cases h
      have hc := hops x (by simp [Op.operands])
      rw [hx] at hc
      have hc' := hc
      simp only [V.R] at hc'
      obtain ⟨g, _, hv⟩ := hc'
      refine ⟨.value (ρ x), _, w, μ, by simp only [execOp, hop]; rw [hv]; rfl, .inl rfl, hc, Good.same hp pre⟩
    · rename_i cs hx
      cases h
      have hc := hops x (by simp [Op.operands])
      rw [hx] at hc
      have hc' := hc
      simp only [V.R] at hc'
      obtain ⟨g, off, hv, _⟩ := hc'
      refine ⟨.value (ρ x), _, w, μ, by simp only [execOp, hop]; rw [hv]; rfl, .inl rfl, hc, Good.same hp pre⟩
    · cases h
  · rename_i op t x y yt
    obtain ⟨v, hv, rfl⟩ := Option.map_eq_some_iff.1 h
    exact fin (do eqGuard op t x y (ρ x) (ρ y); binOp op t (ρ x) (ρ y)) (by simp only [execOp, hop]) (.same rfl rfl pre (bin_sound hv (hops _ (by simp [Op.operands])) (hops _ (by simp [Op.operands]))))
  · obtain ⟨v, hv, rfl⟩ := Option.map_eq_some_iff.1 h
    exact fin _ (by simp only [execOp, hop]) (.same rfl rfl pre (un_sound hv (hops _ (by simp [Op.operands]))))
  · exact fin _ (by simp only [execOp, hop]) (conv_sound h (hops _ (by simp [Op.operands])) pre)
  · rename_i f first cap
    split at h
    · rename_i hf
      cases h
      have hf' : first = #[] := by cases first; simp_all
      refine fin (Instr.makeFunc (.func f) (first.map ρ) (cap.map ρ)) (by simp only [execOp, hop]) (.same rfl rfl pre ⟨.func (.func f) (first.map ρ) (cap.map ρ), rfl, ?_⟩)
      simp only [V.R, hf', Array.map_empty]
      refine ⟨_, rfl, ?_⟩
      rw [Array.toList_map]
      exact RL_map fun x hx => hops x (by simp only [Op.operands]; exact Array.mem_append.2 (.inr (by simpa using hx)))
    · cases h
  · exact fin _ (by simp only [execOp, hop]) (makeSlice_sound h (hops _ (by simp [Op.operands])) (hops _ (by simp [Op.operands])) pre)
  · rename_i t x lo hi mx
    obtain ⟨h1, h2, _, h4⟩ := slice_sound h (hops _ (by simp [Op.operands])) (OptR_map (ρ := ρ) fun y hy => hops y (by simp [Op.operands, hy])) (OptR_map (ρ := ρ) fun y hy => hops y (by simp [Op.operands, hy])) (OptR_map (ρ := ρ) fun y hy => hops y (by simp [Op.operands, hy])) pre
    exact fin _ (by simp only [execOp, hop]) (.same h1 h2 pre h4)
  · rename_i t x f
    split at h
    case h_3 => cases h
    case h_2 cs fd hx hfd =>
      split at h
      case h_2 => cases h
      case h_1 s hs =>
      cases h
      have hc := hops x (by simp [Op.operands])
      rw [hx] at hc
      simp only [V.R] at hc
      obtain ⟨g, off, hv, hmem⟩ := hc
      unfold fieldOf at hfd
      split at hfd
      case h_2 => cases hfd
      case h_1 fields hu =>
      refine fin (Instr.fieldAt t (ρ x) f) (by simp only [execOp, hop]) (.same rfl rfl pre ⟨.pointer (some ⟨g, off + fd.offset, none⟩), ?_, ?_⟩)
      · simp only [hv, Instr.fieldAt, Sem.run_bind, run_underlying hu, Result.andThen_ok, hfd, Instr.sureAddr, Sem.run_pure, fieldPlace, run_sizeOf hs]
        rw [if_neg (by omega)]
        simp [Addr.add_mid]
      · simp only [V.R]; exact ⟨g, off + fd.offset, rfl, memDrop hmem⟩
    case h_1 b off fd hx hfd =>
    split at h
    case h_2 => cases h
    case h_1 s hs =>
    cases h
    have hc := hops x (by simp [Op.operands])
    rw [hx] at hc
    simp only [V.R] at hc
    obtain ⟨g, hg, hv⟩ := hc
    unfold fieldOf at hfd
    split at hfd
    case h_2 => cases hfd
    case h_1 fields hu =>
    refine fin (Instr.fieldAt t (ρ x) f) (by simp only [execOp, hop]) (.same rfl rfl pre ⟨.pointer (some ⟨g, off + fd.offset, none⟩), ?_, ?_⟩)
    · simp only [hv, Instr.fieldAt, Sem.run_bind, run_underlying hu, Result.andThen_ok, hfd, Instr.sureAddr, Sem.run_pure, fieldPlace, run_sizeOf hs]
      rw [if_neg (by omega)]
      simp [Addr.add_mid]
    · simp only [V.R]; exact ⟨g, hg, rfl⟩
  · rename_i t x f
    split at h
    case h_2 => cases h
    case h_1 cs fd hx hfd =>
    obtain ⟨v, hv, rfl⟩ := Option.map_eq_some_iff.1 h
    have hc := hops x (by simp [Op.operands])
    rw [hx] at hc
    simp only [V.R] at hc
    obtain ⟨vs, hvs, hrl⟩ := hc
    unfold fieldOf at hfd
    split at hfd
    case h_2 => cases hfd
    case h_1 fields hu =>
    obtain ⟨val, h1, h2⟩ := part_sound hv hrl
    refine fin (Instr.field t (ρ x) f) (by simp only [execOp, hop]) (.same rfl rfl pre ⟨val, ?_, h2⟩)
    simp only [hvs, Instr.field, Sem.run_bind, run_underlying hu, Result.andThen_ok, hfd, asAgg, Sem.run_pure, h1]
  · rename_i t x i
    split at h
    case h_3 => cases h
    case h_2 n full cs k ii el hx hi hu =>
      split at h
      case h_2 => cases h
      case h_1 s hs =>
      split at h
      case isFalse => cases h
      case isTrue hin =>
      cases h
      have hc := hops x (by simp [Op.operands])
      have hci := hops i (by simp [Op.operands])
      rw [hx] at hc
      rw [hi] at hci
      simp only [V.R] at hc hci
      obtain ⟨a, cap, hv, hnc, _, hadr, hmem⟩ := hc
      rcases hadr with ⟨_, h0⟩ | ⟨g, off, rfl⟩
      · omega
      have hmem : cs = [] ∨ I g ∧ ∃ cells e fr, w.heap[g]? = some (.cells cells e fr) ∧ V.RL P I noMu w cs ((cells.toList.drop off).take cs.length) := by
        rcases hmem with h | ⟨g', off', he, hm⟩
        · exact .inl h
        · cases he; exact .inr hm
      refine fin (Instr.indexAt t (ρ x) (ρ i)) (by simp only [execOp, hop]) (.same rfl rfl pre ⟨.pointer (some ⟨g, off + ii.toNat * s, none⟩), ?_, ?_⟩)
      · simp only [hv, hci, Instr.indexAt, Sem.run_bind, asIntOf, run_underlying hu, Result.andThen_ok, Sem.run_pure, hin, and_self, if_true, run_sizeOf hs, Addr.add_mid]
      · simp only [V.R]; exact ⟨g, _, rfl, memDrop hmem⟩
    case h_1 b off n full k ii el hx hi hu =>
    split at h
    case h_2 => cases h
    case h_1 s hs =>
    split at h
    case isFalse => cases h
    case isTrue hin =>
    cases h
    have hc := hops x (by simp [Op.operands])
    have hci := hops i (by simp [Op.operands])
    rw [hx] at hc
    rw [hi] at hci
    simp only [V.R] at hc hci
    obtain ⟨g, cap, e', N, inf, hg, hv, _⟩ := hc
    refine fin (Instr.indexAt t (ρ x) (ρ i)) (by simp only [execOp, hop]) (.same rfl rfl pre ⟨.pointer (some ⟨g, off + ii.toNat * s, none⟩), ?_, ?_⟩)
    · simp only [hv, hci, Instr.indexAt, Sem.run_bind, asIntOf, run_underlying hu, Result.andThen_ok, Sem.run_pure, hin, and_self, if_true, run_sizeOf hs, Addr.add_mid]
    · simp only [V.R]; exact ⟨g, hg, rfl⟩
  · rename_i t x i
    obtain ⟨v, hv, rfl⟩ := Option.map_eq_some_iff.1 h
    have hc := hops x (by simp [Op.operands])
    have hci := hops i (by simp [Op.operands])
    unfold evIndex at hv
    split at hv
    case h_2 => cases hv
    case h_1 l k ii hx hi =>
    rw [hx] at hc
    rw [hi] at hci
    simp only [V.R] at hc hci
    split at hv
    case h_2 => cases hv
    case h_1 hu =>
    split at hv
    case isFalse => cases hv
    case isTrue h0 =>
    obtain ⟨b, hb, rfl⟩ := Option.map_eq_some_iff.1 hv
    obtain ⟨hlt, hbe⟩ := List.getElem?_eq_some_iff.1 hb
    refine fin (Instr.index t (ρ x) (ρ i)) (by simp only [execOp, hop]) (.same rfl rfl pre ⟨.int .u8 b.toNat, ?_, by simp [V.R]⟩)
    rw [hc, hci, run_index_string w t _ k ii hu]
    have hsz : (⟨l.toArray⟩ : ByteArray).size = l.length := rfl
    rw [dif_pos ⟨h0, by rw [hsz]; omega⟩]
    have : (⟨l.toArray⟩ : ByteArray)[ii.toNat]'(by rw [hsz]; omega) = b := by rw [← hbe]; rfl
    rw [this]
  · rename_i x i
    split at h
    case h_2 => cases h
    case h_1 vs hx =>
    obtain ⟨v, hv, rfl⟩ := Option.map_eq_some_iff.1 h
    have hc := hops x (by simp [Op.operands])
    rw [hx] at hc
    simp only [V.R] at hc
    obtain ⟨us, hus, hrl⟩ := hc
    obtain ⟨u, hu, hr⟩ := hrl.get hv
    refine fin (Instr.extract (ρ x) i) (by simp only [execOp, hop]) (.same rfl rfl pre ⟨u, ?_, hr⟩)
    rw [Array.getElem?_toList] at hu
    simp only [hus, Instr.extract, hu, Sem.run_pure]
  · rename_i c
    have hargs : ∀ x ∈ c.args, V.R P I μ w (e x) (ρ x) := fun x hx => hops x (by simp only [Op.operands, Call.operands]; exact Array.mem_append.2 (.inr hx))
    split at h
    · rename_i s x t t' hcal ha hat
      have ha' : c.args = #[s, x] := by cases hca : c.args; rw [hca] at ha; simp at ha; simp [ha]
      have hat' : c.argTypes = #[t, t'] := by cases hca : c.argTypes; rw [hca] at hat; simp at hat; simp [hat]
      rw [ha'] at hargs
      refine fin2 (Builtin.append_ #[t, t'] o.type #[ρ s, ρ x]) ?_ (append_sound h (hargs s (by simp)) (hargs x (by simp)) pre)
      simp only [execOp, hop, resolve, hcal, ha', hat', invoke, builtin, Sem.run_bind, Sem.run_pure, Result.andThen_ok, List.map_toArray, List.map_cons, List.map_nil]
    · rename_i x t hcal ha hat
      have ha' : c.args = #[x] := by cases hca : c.args; rw [hca] at ha; simp at ha; simp [ha]
      have hat' : c.argTypes = #[t] := by cases hca : c.argTypes; rw [hca] at hat; simp at hat; simp [hat]
      rw [ha'] at hargs
      obtain ⟨h1, h2, _, h4⟩ := len_sound (ty := o.type) h (hargs x (by simp))
      refine fin2 (Builtin.len_ #[t] o.type #[ρ x]) ?_ (.same h1 h2 pre h4)
      simp only [execOp, hop, resolve, hcal, ha', hat', invoke, builtin, Sem.run_bind, Sem.run_pure, Result.andThen_ok, List.map_toArray, List.map_cons, List.map_nil]
    · rename_i x y hcal ha
      have ha' : c.args = #[x, y] := by cases hca : c.args; rw [hca] at ha; simp at ha; simp [ha]
      rw [ha'] at hargs
      obtain ⟨v, hv, rfl⟩ := Option.map_eq_some_iff.1 h
      have h1 := hargs x (by simp)
      have h2 := hargs y (by simp)
      unfold evMin at hv
      split at hv
      case h_2 => cases hv
      rename_i k a k' b hx hy
      cases hv
      rw [hx] at h1
      rw [hy] at h2
      simp only [V.R] at h1 h2
      refine fin2 (Builtin.min_ c.argTypes o.type #[ρ x, ρ y]) ?_ (.same rfl rfl pre ⟨.int k (if b < a then b else a), ?_, by simp only [V.R]⟩)
      · simp only [execOp, hop, resolve, hcal, ha', invoke, builtin, Sem.run_bind, Sem.run_pure, Result.andThen_ok, List.map_toArray, List.map_cons, List.map_nil]
      · rw [h1, h2]; simp [Builtin.min_, Builtin.min2]
    · rename_i x y hcal ha
      have ha' : c.args = #[x, y] := by cases hca : c.args; rw [hca] at ha; simp at ha; simp [ha]
      rw [ha'] at hargs
      obtain ⟨v, hv, rfl⟩ := Option.map_eq_some_iff.1 h
      have h1 := hargs x (by simp)
      have h2 := hargs y (by simp)
      unfold evMax at hv
      split at hv
      case h_2 => cases hv
      rename_i k a k' b hx hy
      cases hv
      rw [hx] at h1
      rw [hy] at h2
      simp only [V.R] at h1 h2
      refine fin2 (Builtin.max_ c.argTypes o.type #[ρ x, ρ y]) ?_ (.same rfl rfl pre ⟨.int k (if b > a then b else a), ?_, by simp only [V.R]⟩)
      · simp only [execOp, hop, resolve, hcal, ha', invoke, builtin, Sem.run_bind, Sem.run_pure, Result.andThen_ok, List.map_toArray, List.map_cons, List.map_nil]
      · rw [h1, h2]; simp [Builtin.max_, Builtin.max2]
    · cases h
  · cases h

end
end Go.Proofs.YtjgancippgpdhaaGreatDoor

namespace Go.Proofs.YtjgancippgpdhaaGreatDoor
open Go.RowKit

def nilC : Operand → Bool
  | .const (.slice none 0 0) => true
  | _ => false
/-- Is a slice nil? -/
def isNilV : V → Option Bool
  | .sl _ _ _ _ => some false
  | .dsl (_ + 1) _ _ => some false
  | .lit (.slice none 0 0) => some true
  | .lit (.slice (some _) _ _) => some false
  | _ => none
def evClear (P : Program) (hp : Hp) (t : TypeId) (x : V) : Option Out :=
  match P.underlying t with
  | some (.slice elem) => match x with
    | .dsl 0 _ _ => some ⟨.tup [], hp, [], []⟩
    | .sl _ _ 0 _ => some ⟨.tup [], hp, [], []⟩
    | .sl b off (n + 1) _ => match P.info? elem, hp[b]? with
      | some i, some (some blk) => match i.zero with
        | some z =>
          if blk.2 = elem ∧ 0 < i.size ∧ z.cells.size = i.size ∧ (zeros (z.cells.toList.map ofScalar) ((n + 1) * i.size)).all V.one = true ∧ off + (n + 1) * i.size ≤ (flat blk.1).length then
            match spliceV blk.1 off ((n + 1) * i.size) (zeros (z.cells.toList.map ofScalar) ((n + 1) * i.size)) with
            | some l => some ⟨.tup [], hp.set b (some (l, blk.2)), [b], [b]⟩
            | none => none
          else none
        | none => none
      | _, _ => none
    | _ => none
  | _ => none
/-- Onto a slice nothing is appended. -/
def evApp0 (P : Program) (hp : Hp) (t t' : TypeId) (s x : V) : Option Out :=
  match P.underlying t, t == t' with
  | some (.slice elem), true => match P.info? elem, s, x with
    | some _, .sl b off n full, .lit (.slice _ 0 _) => some ⟨.sl b off n full, hp, [], []⟩
    | some _, .dsl n full cs, .lit (.slice _ 0 _) => some ⟨.dsl n full cs, hp, [], []⟩
    | _, _, _ => none
  | _, _ => none
/-- Some elements into the place of others. -/
def evCopy (P : Program) (hp : Hp) (t : TypeId) (s x : V) : Option Out :=
  match P.underlying t with
  | some (.slice elem) =>
    match P.info? elem, s with
    | some i, .sl b off n _ =>
      match hp[b]?, srcV hp i.size x with
      | some (some blk), some (bs, m, news) =>
        if 0 < m ∧ 0 < i.size ∧ m ≤ n ∧ off + m * i.size ≤ (flat blk.1).length then
          match spliceV blk.1 off (m * i.size) (flat news) with
          | some l => some ⟨.int .i64 m, hp.set b (some (l, blk.2)), b :: bs, [b]⟩
          | none => none
        else none
      | _, _ => none
    | _, _ => none
  | _ => none
/-- What evPlain does not do. -/
def evMore (P : Program) (e : Operand → V) (hp : Hp) : Op → Option Out
  | .binOp op t x y _ => match nilC y with
    | true => match P.underlying t, isNilV (e x), op with
      | some (.slice _), some b, .eql => some ⟨.bool b, hp, [], []⟩
      | some (.slice _), some b, .neq => some ⟨.bool (!b), hp, [], []⟩
      | _, _, _ => none
    | false => match op, e x, e y with
      | .shr, .int k a, .int _ b => if 0 ≤ b then some ⟨.int k (a.fdiv (2 ^ min b.toNat k.bits)), hp, [], []⟩ else none
      | .shl, .int k a, .int _ b => if 0 ≤ b then some ⟨.int k (k.wrap (a * 2 ^ min b.toNat k.bits)), hp, [], []⟩ else none
      | _, _, _ => none
  | .call c => match c.callee, c.args.toList, c.argTypes.toList with
    | .builtin .append, [s, x], [t, t'] => evApp0 P hp t t' (e s) (e x)
    | .builtin .clear, [x], [t] => evClear P hp t (e x)
    | .builtin .copy, [s, x], [t, _] => evCopy P hp t (e s) (e x)
    | _, _, _ => none
  | .makeInterface t x => match P.underlying t with
    | some (.interface _) => none
    | some _ => some ⟨.box (.iface t) [e x], hp, [], []⟩
    | none => none
  | .makeFunc (.func f) first cap => some ⟨.box (.bound f first.size) ((first ++ cap).toList.map e), hp, [], []⟩
  | .indexAddr t x i => match P.underlying t, e x, e i with
    | some (.array n el), .ptr b off, .int _ i => match szOf P el with
      | some s => if 0 ≤ i ∧ i < n then some ⟨.ptr b (off + i.toNat * s), hp, [], []⟩ else none
      | none => none
    | _, _, _ => none
  | _ => none

section
variable {P : Program} {I : Nat → Prop} {μ : Mu} {w : World} {hp : Hp} {out : Out}

theorem copy_tidy {t : TypeId} {x y : V} (h : evCopy P hp t x y = some out) : Tidy hp out.hp out.acc out.wr := by
  unfold evCopy at h
  split at h
  case h_2 => cases h
  split at h
  case h_2 => cases h
  split at h
  case h_2 => cases h
  case h_1 i b off n full hi blk bs m news hb hsrc =>
  split at h
  · split at h
    · cases h
      exact ⟨by simp, fun c hc hn => by rw [List.getElem?_set_ne (fun e => hn (by simp [e]))], by simp, fun c hc => by
        rcases List.mem_cons.1 hc with rfl | hc
        · exact at_lt hb
        · exact src_tidy hsrc c hc, by intro c hc; obtain rfl := List.mem_singleton.1 hc; exact ⟨_, hb⟩⟩
    · cases h
  · cases h

theorem more_tidy {e : Operand → V} {op : Op} (h : evMore P e hp op = some out) : Tidy hp out.hp out.acc out.wr := by
  unfold evMore at h
  split at h
  · split at h
    · split at h
      · cases h; exact .same hp (by simp)
      · cases h; exact .same hp (by simp)
      · cases h
    · split at h
      · split at h
        · cases h; exact .same hp (by simp)
        · cases h
      · split at h
        · cases h; exact .same hp (by simp)
        · cases h
      · cases h
  · split at h
    · unfold evApp0 at h
      split at h
      · split at h
        · cases h; exact .same hp (by simp)
        · cases h; exact .same hp (by simp)
        · cases h
      · cases h
    · unfold evClear at h
      split at h
      case h_2 => cases h
      split at h
      · cases h; exact .same hp (by simp)
      · cases h; exact .same hp (by simp)
      · split at h
        · rename_i i blk hi hb
          split at h
          · split at h
            · split at h
              · cases h
                exact ⟨by simp, fun c hc hn => by rw [List.getElem?_set_ne (fun e => hn (by simp [e]))], by simp, by simpa using at_lt hb, by intro c hc; obtain rfl := List.mem_singleton.1 hc; exact ⟨_, hb⟩⟩
              · cases h
            · cases h
          · cases h
        · cases h
      · cases h
    · exact copy_tidy h
    · cases h
  · split at h
    · cases h
    · cases h; exact .same hp (by simp)
    · cases h
  · cases h; exact .same hp (by simp)
  · split at h
    · split at h
      · split at h
        · cases h; exact .same hp (by simp)
        · cases h
      · cases h
    · cases h
  · cases h

theorem run_equalIn_nil (w : World) (d : Nat) (t e : TypeId) (a : Option Addr) (l c : Nat) (h : P.underlying t = some (.slice e)) : (Op.equalIn (d + 1) t (.slice a l c) (.slice none 0 0)).run P w = .ok a.isNone w := by
  cases a <;> simp [Op.equalIn, run_underlying h]
theorem run_equal_nil (w : World) (t e : TypeId) (a : Option Addr) (l c : Nat) (h : P.underlying t = some (.slice e)) : (Op.equal t (.slice a l c) (.slice none 0 0)).run P w = .ok a.isNone w := run_equalIn_nil w 9999 t e a l c h

theorem nil_sound {t : TypeId} {ox oy : Operand} {x : V} {vx vy : Value} {b : Bool} {e : TypeId} {op : BinOp} (hu : P.underlying t = some (.slice e)) (hn : isNilV x = some b) (hx : V.R P I μ w x vx) (hy : vy = .slice none 0 0) (hop : op = .eql ∨ op = .neq) :
    (do eqGuard op t ox oy vx vy; binOp op t vx vy : Sem Value).run P w = .ok (.bool (if op = .eql then b else !b)) w := by
  subst hy
  have key : ∃ a l c, vx = .slice a l c ∧ b = a.isNone := by
    unfold isNilV at hn
    split at hn
    · cases hn
      simp only [V.R] at hx
      obtain ⟨g, cap, _, _, _, _, rfl, _⟩ := hx
      exact ⟨_, _, _, rfl, rfl⟩
    · cases hn
      simp only [V.R] at hx
      obtain ⟨a, cap, rfl, hle, _, ha, _⟩ := hx
      rcases ha with ⟨_, h0⟩ | ⟨g, off, rfl⟩
      · omega
      · exact ⟨_, _, _, rfl, rfl⟩
    · cases hn
      simp only [V.R] at hx
      exact ⟨_, _, _, hx, rfl⟩
    · cases hn
      simp only [V.R] at hx
      exact ⟨_, _, _, hx, rfl⟩
    · cases hn
  obtain ⟨a, l, c, rfl, rfl⟩ := key
  rw [Sem.run_bind, guard_slice]
  simp only [Result.andThen_ok]
  rcases hop with rfl | rfl
  · simp only [binOp]
    simp [run_equal_nil w t e a l c hu]
  · simp only [binOp]
    simp [run_equal_nil w t e a l c hu]

theorem clear_sound {t ty : TypeId} {x : V} {vx : Value} (h : evClear P hp t x = some out) (hx : V.R P I μ w x vx) (pre : Pre P I μ w hp out.acc out.hp.length) : DoesP P I μ w hp out (Builtin.clear_ #[t] ty #[vx]) := by
  unfold evClear at h
  split at h
  case h_2 => cases h
  case h_1 elem hu =>
  split at h
  · cases h
    simp only [V.R] at hx
    obtain ⟨a, cap, rfl, _⟩ := hx
    refine .same rfl rfl pre ⟨.tuple #[], ?_, by simp [V.R, V.RL]⟩
    cases a <;> simp [Builtin.clear_, run_underlying hu]
  · cases h
    simp only [V.R] at hx
    obtain ⟨g, cap, _, _, _, _, rfl, _⟩ := hx
    refine .same rfl rfl pre ⟨.tuple #[], ?_, by simp [V.R, V.RL]⟩
    simp [Builtin.clear_, run_underlying hu]
  · rename_i b off n full
    split at h
    case h_2 => cases h
    case h_1 i blk hi hb =>
    split at h
    case h_2 => cases h
    case h_1 z hz =>
    split at h
    case isFalse => cases h
    case isTrue hc =>
    obtain ⟨hel, hpos, hzs, h1, hle⟩ := hc
    split at h
    case h_2 => cases h
    case h_1 l' hsp =>
    cases h
    simp only [V.R] at hx
    obtain ⟨g, cap, e, N, i', hg, rfl, _⟩ := hx
    obtain ⟨g', cs, fr, hg', _, hw, hfr, hsz, hcr⟩ := pre.holds b (by simp) blk hb
    rw [hg] at hg'; cases hg'
    have hrow : Row w g blk.2 cs := ⟨fr, hw, hfr⟩
    have hzl : V.RL P I μ w (zeros (z.cells.toList.map ofScalar) ((n + 1) * i.size)) (Builtin.zeroCells z.cells (n + 1)).toList := by
      have := RL_zeros (P := P) (I := I) (μ := μ) (w := w) z.cells ((n + 1) * i.size)
      unfold Builtin.zeroCells
      rw [hzs]; rw [hzs] at this; exact this
    have hvl : (Builtin.zeroCells z.cells (n + 1)).toList.length = (n + 1) * i.size := by simp [Builtin.zeroCells, hzs]
    have hst := storeCells_row P g off blk.2 (Builtin.zeroCells z.cells (n + 1)).toList 0 cs w hrow (by omega) (ones hzl h1)
    simp only [Nat.add_zero] at hst
    obtain ⟨hl2, hcr2⟩ := splice_sound hsp hcr hzl (by simp [zeros]) hle
    refine ⟨.tuple #[], w.setRow g (cs.toList.take off ++ (Builtin.zeroCells z.cells (n + 1)).toList ++ cs.toList.drop (off + (Builtin.zeroCells z.cells (n + 1)).toList.length)).toArray, μ, ?_, by simp [V.R, V.RL], ?_⟩
    · simp [Builtin.clear_, Sem.run_bind, run_underlying hu, zeroValue, typeInfo, hi, hz]
      rw [hst]
      simp
    · have e := take_splice cs.toList (Builtin.zeroCells z.cells (n + 1)).toList off (flat blk.1).length (by omega) (by simpa using hsz)
      have hvs : (Builtin.zeroCells z.cells (n + 1)).size = (n + 1) * i.size := by simpa using hvl
      refine Good.writeC (blk' := (l', blk.2)) (by simpa using pre) (by simp) hb hg hw rfl ?_ hfr ?_
      · simp only [List.size_toArray, List.length_append, List.length_take, List.length_drop, Array.length_toList]; omega
      · refine ⟨?_, ?_⟩
        · show (flat l').length ≤ _
          rw [hl2]; simp only [List.size_toArray, List.length_append, List.length_take, List.length_drop, Array.length_toList]; omega
        · show CR P I μ w l' (List.take (flat l').length _)
          rw [hl2, e, hvl]
          exact hcr2
  · cases h

theorem copy_sound {t t' ty : TypeId} {x y : V} {vx vy : Value} (h : evCopy P hp t x y = some out) (hx : V.R P I μ w x vx) (hy : V.R P I μ w y vy) (pre : Pre P I μ w hp out.acc out.hp.length) : DoesP P I μ w hp out (Builtin.copy_ #[t, t'] ty #[vx, vy]) := by
  unfold evCopy at h
  split at h
  case h_2 => cases h
  case h_1 elem hu =>
  split at h
  case h_2 => cases h
  case h_1 i b off n full hi =>
  split at h
  case h_2 => cases h
  case h_1 blk bs m news hb hsrc =>
  split at h
  case isFalse => cases h
  case isTrue hc =>
  obtain ⟨hm, hpos, hmn, hle⟩ := hc
  split at h
  case h_2 => cases h
  case h_1 l' hsp =>
  cases h
  simp only [V.R] at hx
  obtain ⟨g, cap, e, N, i', hg, rfl, _⟩ := hx
  obtain ⟨a, c, nv, rfl, h1, h2, hone, h3, _⟩ := src_sound hsrc hy fun b' hb' => pre.holds b' (by simp [hb'])
  obtain ⟨g', cs, fr, hg', _, hw, hfr, hsz, hcr⟩ := pre.holds b (by simp) blk hb
  rw [hg] at hg'; cases hg'
  have hrow : Row w g blk.2 cs := ⟨fr, hw, hfr⟩
  have hnv := h2.toRL.length
  have hvl : nv.length = m * i.size := by rw [hnv, h1]
  have hmp : 0 < m * i.size := Nat.mul_pos hm hpos
  have hne : nv ≠ [] := by
    rintro rfl
    simp at hvl; omega
  obtain ⟨ad, rfl, hcells⟩ := lies_cells h3 hne
  have hf := run_firstCells_some (P := P) w i.size m ad m c nv hvl hcells
  have hst := storeCells_row P g off blk.2 nv 0 cs w hrow (by omega) hone
  simp only [Nat.add_zero] at hst
  obtain ⟨hl2, hcr2⟩ := splice_sound hsp hcr h2.toRL h1 hle
  refine ⟨.int .i64 m, w.setRow g (cs.toList.take off ++ nv ++ cs.toList.drop (off + nv.length)).toArray, μ, ?_, by simp [V.R], ?_⟩
  · have hmin : Nat.min m n = m := Nat.min_eq_left hmn
    simp [Builtin.copy_, Sem.run_bind, run_underlying hu, sizeOf, typeInfo, hi, Builtin.lenOf, hmin, hf, hst]
    rfl
  · have e := take_splice cs.toList nv off (flat blk.1).length (by omega) (by simpa using hsz)
    refine Good.writeC (blk' := (l', blk.2)) (by simpa using pre) (by simp) hb hg hw rfl ?_ hfr ?_
    · simp only [List.size_toArray, List.length_append, List.length_take, List.length_drop, Array.length_toList]; omega
    · refine ⟨?_, ?_⟩
      · show (flat l').length ≤ _
        rw [hl2]; simp only [List.size_toArray, List.length_append, List.length_take, List.length_drop, Array.length_toList]; omega
      · show CR P I μ w l' (List.take (flat l').length _)
        rw [hl2, e, hvl]
        exact hcr2

theorem app0_sound {t t' ty : TypeId} {x y : V} {vx vy : Value} (h : evApp0 P hp t t' x y = some out) (hx : V.R P I μ w x vx) (hy : V.R P I μ w y vy) (pre : Pre P I μ w hp out.acc out.hp.length) : DoesP P I μ w hp out (Builtin.append_ #[t, t'] ty #[vx, vy]) := by
  unfold evApp0 at h
  split at h
  case h_2 => cases h
  case h_1 elem hu htt =>
  obtain rfl : t = t' := by simpa using htt
  split at h
  · rename_i i b off n full a c hi
    cases h
    have hx0 := hx
    simp only [V.R] at hx hy
    subst hy
    obtain ⟨g, cap, e, N, i', hg, rfl, hle, _⟩ := hx
    exact .same rfl rfl pre ⟨_, append_zero hu hi _ n cap hle a c, hx0⟩
  · rename_i i n full cs a c hi
    cases h
    have hx0 := hx
    simp only [V.R] at hx hy
    subst hy
    obtain ⟨b, cap, rfl, hle, _⟩ := hx
    exact .same rfl rfl pre ⟨_, append_zero hu hi _ n cap hle a c, hx0⟩
  · cases h

theorem more_sound {o : Oper} {e : Operand → V} {ρ : Operand → Value} (hρ : ∀ v, ρ (.const v) = v) (h : evMore P e hp o.op = some out) (hops : ∀ x ∈ o.op.operands, V.R P I μ w (e x) (ρ x)) (pre : Pre P I μ w hp out.acc out.hp.length) :
    ∃ val w' μ', (execOp ρ o).run P w = .ok (.value val) w' ∧ V.R P I μ' w' out.v val ∧ Good P I I μ μ' w w' hp out.hp out.acc out.wr := by
  have fin : ∀ s : Sem Value, (execOp ρ o).run P w = (do pure (.value (← s)) : Sem Next).run P w → DoesP P I μ w hp out s → ∃ val w' μ', (execOp ρ o).run P w = .ok (.value val) w' ∧ V.R P I μ' w' out.v val ∧ Good P I I μ μ' w w' hp out.hp out.acc out.wr := by
    intro s hs ⟨val, w', μ', h1, h2, h3⟩
    exact ⟨val, w', μ', by rw [hs]; simp only [Sem.run_bind, h1, Result.andThen_ok, Sem.run_pure], h2, h3⟩
  unfold evMore at h
  split at h <;> first | (rename_i hop; rw [hop] at hops) | skip
  · rename_i op t x y yt
    have hx := hops x (by simp [Op.operands])
    split at h
    · rename_i hn
      have hy : ρ y = .slice none 0 0 := by
        unfold nilC at hn
        split at hn
        · exact hρ _
        · cases hn
      split at h
      · rename_i e b hu hv
        cases h
        refine fin (do eqGuard .eql t x y (ρ x) (ρ y); binOp .eql t (ρ x) (ρ y)) (by simp only [execOp, hop]) (.same rfl rfl pre ⟨_, nil_sound hu hv hx hy (.inl rfl), by simp [V.R]⟩)
      · rename_i e b hu hv
        cases h
        refine fin (do eqGuard .neq t x y (ρ x) (ρ y); binOp .neq t (ρ x) (ρ y)) (by simp only [execOp, hop]) (.same rfl rfl pre ⟨_, nil_sound hu hv hx hy (.inr rfl), by simp [V.R]⟩)
      · cases h
    · have hy := hops y (by simp [Op.operands])
      split at h
      · rename_i k a k' b hex hey
        split at h
        · rename_i hb
          cases h
          rw [hex] at hx
          rw [hey] at hy
          simp only [V.R] at hx hy
          refine fin (do eqGuard .shr t x y (ρ x) (ρ y); binOp .shr t (ρ x) (ρ y)) (by simp only [execOp, hop]) (.same rfl rfl pre ⟨.int k (a.fdiv (2 ^ min b.toNat k.bits)), ?_, by simp [V.R]⟩)
          rw [hx, hy, Sem.run_bind, guard_int]
          simp only [Result.andThen_ok, binOp, Op.shift]
          rw [if_neg (by omega)]
          rfl
        · cases h
      · rename_i k a k' b hex hey
        split at h
        · rename_i hb
          cases h
          rw [hex] at hx
          rw [hey] at hy
          simp only [V.R] at hx hy
          refine fin (do eqGuard .shl t x y (ρ x) (ρ y); binOp .shl t (ρ x) (ρ y)) (by simp only [execOp, hop]) (.same rfl rfl pre ⟨.int k (k.wrap (a * 2 ^ min b.toNat k.bits)), ?_, by simp [V.R]⟩)
          rw [hx, hy, Sem.run_bind, guard_int]
          simp only [Result.andThen_ok, binOp, Op.shift]
          rw [if_neg (by omega)]
          rfl
        · cases h
      · cases h
  · rename_i c
    have hargs : ∀ x ∈ c.args, V.R P I μ w (e x) (ρ x) := fun x hx => hops x (by simp only [Op.operands, Call.operands]; exact Array.mem_append.2 (.inr hx))
    split at h
    · rename_i s x t t' hcal ha hat
      have ha' : c.args = #[s, x] := by cases hca : c.args; rw [hca] at ha; simp at ha; simp [ha]
      have hat' : c.argTypes = #[t, t'] := by cases hca : c.argTypes; rw [hca] at hat; simp at hat; simp [hat]
      rw [ha'] at hargs
      refine fin (Builtin.append_ #[t, t'] o.type #[ρ s, ρ x]) ?_ (app0_sound h (hargs s (by simp)) (hargs x (by simp)) pre)
      simp only [execOp, hop, resolve, hcal, ha', hat', invoke, builtin, Sem.run_bind, Sem.run_pure, Result.andThen_ok, List.map_toArray, List.map_cons, List.map_nil]
    · rename_i x t hcal ha hat
      have ha' : c.args = #[x] := by cases hca : c.args; rw [hca] at ha; simp at ha; simp [ha]
      have hat' : c.argTypes = #[t] := by cases hca : c.argTypes; rw [hca] at hat; simp at hat; simp [hat]
      rw [ha'] at hargs
      refine fin (Builtin.clear_ #[t] o.type #[ρ x]) ?_ (clear_sound h (hargs x (by simp)) pre)
      simp only [execOp, hop, resolve, hcal, ha', hat', invoke, builtin, Sem.run_bind, Sem.run_pure, Result.andThen_ok, List.map_toArray, List.map_cons, List.map_nil]
    · rename_i s x t t' hcal ha hat
      have ha' : c.args = #[s, x] := by cases hca : c.args; rw [hca] at ha; simp at ha; simp [ha]
      have hat' : c.argTypes = #[t, t'] := by cases hca : c.argTypes; rw [hca] at hat; simp at hat; simp [hat]
      rw [ha'] at hargs
      refine fin (Builtin.copy_ #[t, t'] o.type #[ρ s, ρ x]) ?_ (copy_sound h (hargs s (by simp)) (hargs x (by simp)) pre)
      simp only [execOp, hop, resolve, hcal, ha', hat', invoke, builtin, Sem.run_bind, Sem.run_pure, Result.andThen_ok, List.map_toArray, List.map_cons, List.map_nil]
    · cases h
  · rename_i t x
    have hx := hops x (by simp [Op.operands])
    split at h
    · cases h
    · rename_i d hni hu
      cases h
      refine fin (Instr.makeInterface t (ρ x)) (by simp only [execOp, hop]) (.same rfl rfl pre ⟨.iface t (ρ x), ?_, ?_⟩)
      · simp only [Instr.makeInterface, Sem.run_bind, run_underlying hu, Result.andThen_ok]
        rfl
      · simp only [V.R, V.RL]
        exact ⟨#[ρ x], by simp [BK.mk], ρ x, [], rfl, hx, rfl⟩
    · cases h
  · rename_i f first cap
    cases h
    refine fin (Instr.makeFunc (.func f) (first.map ρ) (cap.map ρ)) (by simp only [execOp, hop]) (.same rfl rfl pre ⟨.func (.func f) (first.map ρ) (cap.map ρ), rfl, ?_⟩)
    simp only [V.R]
    refine ⟨(first ++ cap).map ρ, ?_, ?_⟩
    · have e1 : ((first ++ cap).map ρ).extract 0 first.size = first.map ρ := by
        apply Array.ext'
        simp only [Array.toList_extract, List.extract_eq_take_drop, Array.toList_map, Array.toList_append, List.map_append, List.drop_zero, Nat.sub_zero]
        rw [List.take_append_of_le_length (by simp), List.take_of_length_le (by simp)]
      have e2 : ((first ++ cap).map ρ).extract first.size ((first ++ cap).map ρ).size = cap.map ρ := by
        apply Array.ext'
        simp only [Array.toList_extract, List.extract_eq_take_drop, Array.toList_map, Array.toList_append, List.map_append, Array.size_map, Array.size_append]
        rw [List.drop_append_of_le_length (by simp), List.drop_of_length_le (by simp), List.nil_append, List.take_of_length_le (by simp)]
      show Value.func _ _ _ = Value.func _ _ _
      rw [e1, e2]
    · rw [Array.toList_map]
      exact RL_map fun x hx => hops x (by simp only [Op.operands]; simpa using hx)
  · rename_i t x i
    have hx := hops x (by simp [Op.operands])
    have hi := hops i (by simp [Op.operands])
    split at h
    · rename_i n el b off kk k hu hex hei
      split at h
      · rename_i sz hs
        split at h
        · rename_i hin
          cases h
          rw [hex] at hx
          rw [hei] at hi
          simp only [V.R] at hx hi
          obtain ⟨g, hg, hx⟩ := hx
          refine fin (Instr.indexAt t (ρ x) (ρ i)) (by simp only [execOp, hop]) (.same rfl rfl pre ⟨.pointer (some ⟨g, off + k.toNat * sz, none⟩), ?_, ?_⟩)
          · rw [hx, hi]
            simp [Instr.indexAt, asIntOf, run_underlying hu, Instr.sureAddr, run_sizeOf hs, hin, Addr.add_mid]
          · simp only [V.R]; exact ⟨g, hg, rfl⟩
        · cases h
      · cases h
    · cases h
  · cases h

end
end Go.Proofs.YtjgancippgpdhaaGreatDoor

namespace Go.Proofs.YtjgancippgpdhaaGreatDoor
open Go.RowKit

/-- Where a block stands in a list. -/
def pos : List Nat → Nat → Option Nat
  | [], _ => none
  | x :: t, b => if x = b then some 0 else (pos t b).map (· + 1)

mutual
def V.ren (ρ : Nat → Option Nat) : V → V
  | .ptr b off => match ρ b with
    | some b' => .ptr b' off
    | none => .junk
  | .sl b off n f => match ρ b with
    | some b' => .sl b' off n f
    | none => .junk
  | .agg cs => .agg (V.renL ρ cs)
  | .tup cs => .tup (V.renL ρ cs)
  | .fn f cs => .fn f (V.renL ρ cs)
  | .box f cs => .box f (V.renL ρ cs)
  | .int k n => .int k n
  | .bool b => .bool b
  | .str s => .str s
  | .nilp => .nilp
  | .dsl n f cs => .dsl n f cs
  | .dptr cs => .dptr cs
  | .sld cs => .sld cs
  | .nilf => .nilf
  | .lit v => .lit v
  | .junk => .junk
def V.renL (ρ : Nat → Option Nat) : List V → List V
  | [] => []
  | c :: cs => V.ren ρ c :: V.renL ρ cs
end
def renB (ρ : Nat → Option Nat) (blk : Option Blk) : Option Blk := blk.map fun x => (V.renL ρ x.1, x.2)

/-- The blocks that can be reached. -/
def reach (hp : Hp) : Nat → List Nat → List Nat → List Nat
  | 0, _, seen => seen
  | _ + 1, [], seen => seen
  | n + 1, b :: t, seen =>
    if seen.contains b then reach hp n t seen else
    match hp[b]? with
    | some (some blk) => reach hp n (t ++ V.refsL blk.1) (seen ++ [b])
    | _ => reach hp n t seen

structure Ret where
  v : V
  hp : Hp
  wr : List Nat

abbrev CallF := FuncId → List V → Hp → Option Ret

def backTo (ids : List Nat) (top : Nat) (j : Nat) : Option Nat := if j < ids.length then ids[j]? else some (top + (j - ids.length))

def evCall (callF : CallF) (hp : Hp) (f : FuncId) (vs : List V) : Option Out :=
  let ids := reach hp 100000 (V.refsL vs) []
  match callF f (V.renL (pos ids) vs) (ids.map fun b => renB (pos ids) (hp.getD b none)) with
  | some r =>
    let back := backTo ids hp.length
    let wr := r.wr.filterMap fun j => ids[j]?
    some ⟨V.ren back r.v, (hp.zipIdx.map fun x => if wr.contains x.2 then renB back (((pos ids x.2).bind fun j => r.hp[j]?).getD none) else x.1) ++ (r.hp.drop ids.length).map (renB back), ids, wr⟩
  | none => none

/-- A method of a type is this function, whatever the receiver. -/
def MethodIs (P : Program) (t : TypeId) (name : String) (f : FuncId) : Prop := ∀ (v : Value) (args : Array Value) (w : World), (callMethod (.iface t v) name args).run P w = .ok (.enter f (#[v] ++ args)) w
open Classical in
noncomputable def mtab (P : Program) (t : TypeId) (name : String) : Option FuncId := if h : ∃ f, MethodIs P t name f then some h.choose else none
theorem mtab_ok {P : Program} {t : TypeId} {name : String} {f : FuncId} (h : mtab P t name = some f) : MethodIs P t name f := by
  unfold mtab at h
  split at h
  · rename_i hx; cases h; exact hx.choose_spec
  · cases h
theorem mtab_eq {P : Program} {t : TypeId} {name : String} {f : FuncId} (h : MethodIs P t name f) : mtab P t name = some f := by
  have hx : ∃ f, MethodIs P t name f := ⟨f, h⟩
  have h2 := hx.choose_spec
  unfold mtab
  rw [dif_pos hx]
  have a := h .nilFunc #[] default
  have b := h2 .nilFunc #[] default
  rw [a] at b
  injection b with b1 b2
  injection b1 with b3 b4
  rw [← b3]
noncomputable def evOp (P : Program) (callF : CallF) (e : Operand → V) (hp : Hp) (o : Op) : Option Out :=
  match o with
  | .call { callee := .value f, args := args, argTypes := _ } =>
    match e f with
    | .fn g cap => evCall callF hp g (args.toList.map e ++ cap)
    | _ => none
  | .call { callee := .invoke x name, args := args, argTypes := _ } =>
    match e x with
    | .box (.iface t) [v] => match mtab P t name with
      | some f => evCall callF hp f (v :: args.toList.map e)
      | none => none
    | _ => none
  | o => match evPlain P e hp o with
    | some out => some out
    | none => evMore P e hp o

/-- The temporaries: a tree by number. -/
inductive Tr where
  | leaf
  | node (v : V) (l r : Tr)
def Tr.get : Tr → Nat → V
  | .leaf, _ => .junk
  | .node v l r, i => match Nat.beq i 0 with
    | true => v
    | false => match Nat.beq (i % 2) 1 with
      | true => l.get (i / 2)
      | false => r.get (i / 2 - 1)
def Tr.set : Tr → Nat → V → Tr
  | .leaf, _, _ => .leaf
  | .node v l r, i, x => match Nat.beq i 0 with
    | true => .node x l r
    | false => match Nat.beq (i % 2) 1 with
      | true => .node v (l.set (i / 2) x) r
      | false => .node v l (r.set (i / 2 - 1) x)
/-- 'set', reckoned at once. -/
def Tr.setK {β : Type _} : Tr → Nat → V → (Tr → β) → β
  | .leaf, _, _, k => k .leaf
  | .node v l r, i, x, k => match Nat.beq i 0 with
    | true => k (.node x l r)
    | false => match Nat.beq (i % 2) 1 with
      | true => l.setK (i / 2) x fun t => k (.node v t r)
      | false => r.setK (i / 2 - 1) x fun t => k (.node v l t)
theorem Tr.setK_eq {β : Type _} : ∀ (t : Tr) (i : Nat) (x : V) (k : Tr → β), t.setK i x k = k (t.set i x)
  | .leaf, _, _, _ => rfl
  | .node v l r, i, x, k => by
    unfold Tr.setK Tr.set
    cases Nat.beq i 0
    · cases Nat.beq (i % 2) 1
      · simp only [Tr.setK_eq r]
      · simp only [Tr.setK_eq l]
    · rfl
theorem Tr.get_ne : ∀ (t : Tr) (i j : Nat) (x : V), i ≠ j → (t.set i x).get j = t.get j
  | .leaf, _, _, _, _ => rfl
  | .node v l r, i, j, x, h => by
    have e : ∀ n m : Nat, Nat.beq n m = decide (n = m) := fun n m => by rw [Bool.eq_iff_iff]; simp
    unfold Tr.set
    by_cases hi : i = 0
    · have hj : j ≠ 0 := by omega
      simp [e, hi, Tr.get, hj]
    · by_cases hi2 : i % 2 = 1
      · simp only [e, hi, hi2, decide_true, decide_false]
        unfold Tr.get
        by_cases hj : j = 0
        · simp [hj]
        · by_cases hj2 : j % 2 = 1
          · simp only [e, hj, hj2, decide_true, decide_false]
            exact Tr.get_ne l _ _ x (by omega)
          · simp [e, hj, hj2]
      · simp only [e, hi, hi2, decide_false]
        unfold Tr.get
        by_cases hj : j = 0
        · simp [hj]
        · by_cases hj2 : j % 2 = 1
          · simp [e, hj, hj2]
          · simp only [e, hj, hj2, decide_false]
            exact Tr.get_ne r _ _ x (by omega)
theorem Tr.get_eq : ∀ (t : Tr) (i : Nat) (x : V), (t.set i x).get i = x ∨ (t.set i x).get i = .junk
  | .leaf, _, _ => .inr rfl
  | .node v l r, i, x => by
    unfold Tr.set
    cases h0 : Nat.beq i 0
    · cases h1 : Nat.beq (i % 2) 1
      · simp only [Tr.get, h0, h1]; exact Tr.get_eq r _ x
      · simp only [Tr.get, h0, h1]; exact Tr.get_eq l _ x
    · left; simp only [Tr.get, h0]
structure Tm where
  n : Nat
  t : Tr
def Tm.get (m : Tm) (i : Nat) : V := match Nat.blt i m.n with
  | true => m.t.get i
  | false => .junk
def Tm.put (m : Tm) (i : Nat) (x : V) : Tm := ⟨m.n, m.t.set i x⟩
theorem Tm.get_ne (m : Tm) {i j : Nat} (x : V) (h : i ≠ j) : (m.put i x).get j = m.get j := by
  unfold Tm.get Tm.put
  simp only [Tr.get_ne m.t i j x h]
theorem Tm.get_eq (m : Tm) (i : Nat) (x : V) : (m.put i x).get i = x ∧ i < m.n ∨ (m.put i x).get i = .junk := by
  unfold Tm.get Tm.put
  cases h : Nat.blt i m.n
  · exact .inr rfl
  · have : i < m.n := by simpa using h
    rcases Tr.get_eq m.t i x with h | h
    · exact .inl ⟨h, this⟩
    · exact .inr h
def Tr.mk0 : Nat → Tr
  | 0 => .leaf
  | k + 1 => .node .junk (Tr.mk0 k) (Tr.mk0 k)
theorem Tr.mk0_get : ∀ (k i : Nat), (Tr.mk0 k).get i = .junk
  | 0, _ => rfl
  | k + 1, i => by
    unfold Tr.mk0 Tr.get
    cases Nat.beq i 0
    · cases Nat.beq (i % 2) 1
      · exact Tr.mk0_get k _
      · exact Tr.mk0_get k _
    · rfl
def Tm.fill : List V → Nat → Tm → Tm
  | [], _, m => m
  | v :: vs, i, m => Tm.fill vs (i + 1) (m.put i v)
theorem Tm.fill_get : ∀ (vs : List V) (i : Nat) (m : Tm) (t : Nat), ((Tm.fill vs i m).get t = m.get t) ∨ ((Tm.fill vs i m).get t = .junk) ∨ (∃ k, t = i + k ∧ vs[k]? = some ((Tm.fill vs i m).get t))
  | [], _, _, _ => .inl rfl
  | v :: vs, i, m, t => by
    unfold Tm.fill
    rcases Tm.fill_get vs (i + 1) (m.put i v) t with h | h | ⟨k, hk, h⟩
    · by_cases e : i = t
      · subst e
        rcases m.get_eq i v with h2 | h2
        · right; right; exact ⟨0, rfl, by rw [h, h2.1]; rfl⟩
        · right; left; rw [h, h2]
      · left; rw [h, m.get_ne v e]
    · exact .inr (.inl h)
    · exact .inr (.inr ⟨k + 1, by omega, by simpa using h⟩)
theorem Tm.fill_n : ∀ (vs : List V) (i : Nat) (m : Tm), (Tm.fill vs i m).n = m.n
  | [], _, _ => rfl
  | _ :: vs, i, m => by unfold Tm.fill; rw [Tm.fill_n vs]; rfl
def Tm.start (n : Nat) (vs : List V) : Tm := Tm.fill vs 0 ⟨n, Tr.mk0 11⟩
theorem Tm.start_get (n : Nat) (vs : List V) (t : Nat) : (Tm.start n vs).get t = .junk ∨ vs[t]? = some ((Tm.start n vs).get t) := by
  have h0 : (⟨n, Tr.mk0 11⟩ : Tm).get t = .junk := by
    unfold Tm.get
    cases Nat.blt t n
    · rfl
    · exact Tr.mk0_get _ _
  rcases Tm.fill_get vs 0 ⟨n, Tr.mk0 11⟩ t with h | h | ⟨k, hk, h⟩
  · left; unfold Tm.start; rw [h, h0]
  · exact .inl h
  · right; rw [show t = k by omega] at h ⊢; exact h

def evalV (tm : Tm) : Operand → V
  | .tmp t => tm.get t
  | .const v => ofValue v
  | .func f => .fn f []
  | .global _ => .junk

structure St where
  tm : Tm
  hp : Hp
  wr : List Nat

/-- Is an operation wanted? none: it can't be told. -/
def wantedV (ops : Array Oper) (tm : Tm) (o : Oper) : Option Bool :=
  match o.guard with
  | none => some true
  | some (j, want) =>
    match (ops[j]?).bind (·.dst) with
    | some d => match tm.get d with
      | .bool b => some (b == want)
      | .lit (.tuple _) => some false
      | _ => none
    | none => none

def putV (tm : Tm) (d : Option Tmp) (v : V) : Tm :=
  match d with
  | some d => tm.put d v
  | none => tm
def putK {β : Type _} (tm : Tm) (d : Option Tmp) (v : V) (k : Tm → β) : β :=
  match d with
  | some d => tm.t.setK d v fun t => k ⟨tm.n, t⟩
  | none => k tm
theorem putK_eq {β : Type _} (tm : Tm) (d : Option Tmp) (v : V) (k : Tm → β) : putK tm d v k = k (putV tm d v) := by
  cases d with
  | none => rfl
  | some d =>
    show (tm.t.setK d v fun t => k ⟨tm.n, t⟩) = _
    rw [Tr.setK_eq]
    rfl

/-- The list is reckoned, then handed on. -/
def forceL {α : Type} {β : Type _} (l : List α) (k : List α → β) : β :=
  match l with
  | [] => k []
  | x :: xs => forceL xs fun ys => k (x :: ys)
theorem forceL_eq {α : Type} {β : Type _} : ∀ (l : List α) (k : List α → β), forceL l k = k l
  | [], _ => rfl
  | x :: xs, k => by unfold forceL; rw [forceL_eq xs]
def forceV {β : Type _} (v : V) (k : V → β) : β :=
  match v with
  | .int a n => k (.int a n)
  | .bool b => k (.bool b)
  | .str s => k (.str s)
  | .nilp => k .nilp
  | .ptr b o => k (.ptr b o)
  | .sl b o n f => k (.sl b o n f)
  | .dsl n f cs => k (.dsl n f cs)
  | .dptr cs => k (.dptr cs)
  | .sld cs => k (.sld cs)
  | .agg cs => k (.agg cs)
  | .tup cs => k (.tup cs)
  | .fn f cs => k (.fn f cs)
  | .box f cs => k (.box f cs)
  | .nilf => k .nilf
  | .lit u => k (.lit u)
  | .junk => k .junk
theorem forceV_eq {β : Type _} (v : V) (k : V → β) : forceV v k = k v := by cases v <;> rfl
def forceW (new old : List Nat) : List Nat :=
  match new with
  | [] => old
  | x :: xs => old ++ x :: xs
theorem forceW_eq (new old : List Nat) : forceW new old = old ++ new := by cases new <;> simp [forceW]

/-- One operation of a region. -/
noncomputable def evStep (P : Program) (callF : CallF) (ops : Array Oper) (s : St) (o : Oper) : Option (St × List Nat × List Nat) :=
  match wantedV ops s.tm o with
  | some true =>
    match evOp P callF (evalV s.tm) s.hp o.op with
    | some out => forceV out.v fun v => putK s.tm o.dst v fun tm => some (⟨tm, out.hp, forceW out.wr s.wr⟩, out.acc, out.wr)
    | none => none
  | some false => putK s.tm o.dst (.lit undef) fun tm => some (⟨tm, s.hp, s.wr⟩, [], [])
  | none => none

noncomputable def evOps (P : Program) (callF : CallF) (ops : Array Oper) : List Oper → St → Option St
  | [], s => some s
  | o :: rest, s => match evStep P callF ops s o with
    | some (s', _) => evOps P callF ops rest s'
    | none => none

inductive Ex where
  | normal
  | exit (id : Nat)
  | ret

def iter (step : St → Option (Ex × St)) : Nat → St → Option (Ex × St)
  | 0, _ => none
  | n + 1, s => match step s with
    | some (.normal, s') => iter step n s'
    | r => r

end Go.Proofs.YtjgancippgpdhaaGreatDoor

namespace Go.Proofs.YtjgancippgpdhaaGreatDoor
open Go.RowKit

section
variable {P : Program} {I : Nat → Prop} {μ μ' : Mu} {w w' : World} {hp : Hp} {out : Out}

theorem pos_spec : ∀ {ids : List Nat} {b j : Nat}, pos ids b = some j → ids[j]? = some b
  | [], _, _, h => by cases h
  | x :: t, b, j, h => by
    unfold pos at h
    split at h
    · rename_i e; cases h; simp [e]
    · obtain ⟨k, hk, rfl⟩ := Option.map_eq_some_iff.1 h
      simpa using pos_spec hk
theorem pos_of : ∀ {ids : List Nat} {b j : Nat}, ids.Nodup → ids[j]? = some b → pos ids b = some j
  | [], _, _, _, h => by simp at h
  | x :: t, b, j, hn, h => by
    unfold pos
    rw [List.nodup_cons] at hn
    cases j with
    | zero => simp at h; rw [if_pos h]
    | succ j =>
      simp at h
      have hb : b ∈ t := List.mem_of_getElem? h
      rw [if_neg (by rintro rfl; exact hn.1 hb), pos_of hn.2 h]
      rfl

mutual
theorem ren_sound {ρ : Nat → Option Nat} (h : ∀ b b' g, ρ b = some b' → μ b = some g → μ' b' = some g) : ∀ (c : V) (v : Value), V.R P I μ w c v → V.R P I μ' w (V.ren ρ c) v
  | .int _ _, _, k => by simpa [V.R, V.ren] using k
  | .bool _, _, k => by simpa [V.R, V.ren] using k
  | .str _, _, k => by simpa [V.R, V.ren] using k
  | .nilp, _, k => by simpa [V.R, V.ren] using k
  | .ptr b off, _, k => by
    simp only [V.ren]
    split
    · rename_i b' hb
      simp only [V.R] at k ⊢
      obtain ⟨g, hg, k⟩ := k
      exact ⟨g, h _ _ _ hb hg, k⟩
    · simp [V.R]
  | .sl b off n f, _, k => by
    simp only [V.ren]
    split
    · rename_i b' hb
      simp only [V.R] at k ⊢
      obtain ⟨g, cap, e, N, i, hg, k⟩ := k
      exact ⟨g, cap, e, N, i, h _ _ _ hb hg, k⟩
    · simp [V.R]
  | .dsl _ _ _, _, k => by simpa [V.R, V.ren] using k
  | .dptr _, _, k => by simpa [V.R, V.ren] using k
  | .sld _, _, k => by simp [V.R] at k
  | .agg cs, _, k => by
    simp only [V.R, V.ren] at k ⊢
    obtain ⟨vs, h1, h2⟩ := k
    exact ⟨vs, h1, renL_sound h cs _ h2⟩
  | .tup cs, _, k => by
    simp only [V.R, V.ren] at k ⊢
    obtain ⟨vs, h1, h2⟩ := k
    exact ⟨vs, h1, renL_sound h cs _ h2⟩
  | .fn _ cs, _, k => by
    simp only [V.R, V.ren] at k ⊢
    obtain ⟨vs, h1, h2⟩ := k
    exact ⟨vs, h1, renL_sound h cs _ h2⟩
  | .box _ cs, _, k => by
    simp only [V.R, V.ren] at k ⊢
    obtain ⟨vs, h1, h2⟩ := k
    exact ⟨vs, h1, renL_sound h cs _ h2⟩
  | .nilf, _, k => by simpa [V.R, V.ren] using k
  | .lit _, _, k => by simpa [V.R, V.ren] using k
  | .junk, _, _ => by simp [V.R, V.ren]
theorem renL_sound {ρ : Nat → Option Nat} (h : ∀ b b' g, ρ b = some b' → μ b = some g → μ' b' = some g) : ∀ (cs : List V) (vs : List Value), V.RL P I μ w cs vs → V.RL P I μ' w (V.renL ρ cs) vs
  | [], _, k => by simpa [V.RL, V.renL] using k
  | c :: cs, _, k => by
    simp only [V.RL, V.renL] at k ⊢
    obtain ⟨u, us, h1, h2, h3⟩ := k
    exact ⟨u, us, h1, ren_sound h c u h2, renL_sound h cs us h3⟩
end
theorem renL_length (ρ : Nat → Option Nat) : ∀ cs : List V, (V.renL ρ cs).length = cs.length
  | [] => rfl
  | _ :: cs => by simp [V.renL, renL_length ρ cs]

theorem ren_noSeal {ρ : Nat → Option Nat} {x : V} (hx : ∀ c, x ≠ .sld c) : ∀ c, V.ren ρ x ≠ .sld c := by
  intro c e
  cases x <;> simp only [V.ren] at e <;> first | (split at e <;> cases e; done) | (cases e; done) | exact hx _ rfl
theorem CR.ren {ρ : Nat → Option Nat} (h : ∀ b b' g, ρ b = some b' → μ b = some g → μ' b' = some g) : ∀ {l : List V} {vs : List Value}, CR P I μ w l vs → CR P I μ' w (V.renL ρ l) vs
  | [], _, k => by simpa [CR, V.renL] using k
  | x :: t, vs, k => by
    simp only [V.renL]
    rcases seal_or x with ⟨c, rfl⟩ | hx
    · obtain ⟨us, vs', rfl, h1, h2⟩ := CR.seal_iff.1 k
      exact CR.seal_iff.2 ⟨us, vs', rfl, h1, CR.ren h h2⟩
    · obtain ⟨u, us, rfl, h1, h2⟩ := (CR.cons_iff hx).1 k
      exact (CR.cons_iff (ren_noSeal hx)).2 ⟨u, us, rfl, ren_sound h _ _ h1, CR.ren h h2⟩
theorem flat_ren_length (ρ : Nat → Option Nat) : ∀ l : List V, (flat (V.renL ρ l)).length = (flat l).length
  | [] => rfl
  | x :: t => by
    simp only [V.renL]
    rcases seal_or x with ⟨c, rfl⟩ | hx
    · simp only [V.ren, flat_seal, List.length_append, flat_ren_length ρ t]
    · rw [flat_cons hx, flat_cons (ren_noSeal hx), List.length_cons, List.length_cons, flat_ren_length ρ t]
theorem Holds.ren {ρ : Nat → Option Nat} {b b' : Nat} {blk : Blk} (hh : Holds P I μ w b blk) (h : ∀ b b' g, ρ b = some b' → μ b = some g → μ' b' = some g) (hb : ∀ g, μ b = some g → μ' b' = some g) : Holds P I μ' w b' (V.renL ρ blk.1, blk.2) := by
  obtain ⟨g, cs, fr, h1, h0, h2, h3, h4, h5⟩ := hh
  refine ⟨g, cs, fr, hb g h1, h0, h2, h3, ?_, ?_⟩
  · show (flat (V.renL ρ blk.1)).length ≤ _
    rw [flat_ren_length]; exact h4
  · show CR P I μ' w (V.renL ρ blk.1) (List.take (flat (V.renL ρ blk.1)).length _)
    rw [flat_ren_length]; exact h5.ren h

theorem renB_some {ρ : Nat → Option Nat} {x : Option Blk} {blk : Blk} (h : renB ρ x = some blk) : ∃ blk0, x = some blk0 ∧ blk = (V.renL ρ blk0.1, blk0.2) := by
  unfold renB at h
  obtain ⟨b, hb, rfl⟩ := Option.map_eq_some_iff.1 h
  exact ⟨b, hb, rfl⟩

def Alive (hp : Hp) (b : Nat) : Prop := ∃ blk, hp[b]? = some (some blk)

theorem reach_good (hp : Hp) : ∀ (n : Nat) (todo seen : List Nat), seen.Nodup → (∀ b ∈ seen, Alive hp b) → (reach hp n todo seen).Nodup ∧ (∀ b ∈ reach hp n todo seen, Alive hp b)
  | 0, _, seen, h1, h2 => ⟨h1, h2⟩
  | n + 1, [], seen, h1, h2 => ⟨h1, h2⟩
  | n + 1, b :: t, seen, h1, h2 => by
    unfold reach
    split
    · exact reach_good hp n t seen h1 h2
    · rename_i hc
      have hb : b ∉ seen := by simpa using hc
      split
      · rename_i blk hblk
        refine reach_good hp n _ _ ?_ ?_
        · rw [List.nodup_append]
          refine ⟨h1, by simp, fun a ha c hc e => ?_⟩
          simp at hc; subst hc; subst e; exact hb ha
        · intro c hc
          rcases List.mem_append.1 hc with hc | hc
          · exact h2 c hc
          · simp at hc; subst hc; exact ⟨blk, hblk⟩
      · exact reach_good hp n t seen h1 h2

/-- What a function's evaluation promises. -/
structure FnTidy (hp : Hp) (r : Ret) : Prop where
  len : hp.length ≤ r.hp.length
  frame : ∀ b, b < hp.length → b ∉ r.wr → r.hp[b]? = hp[b]?
  wrb : ∀ b ∈ r.wr, b < hp.length
  alive : ∀ b, b < hp.length → Alive r.hp b → Alive hp b

def FnOK (P : Program) (f : FuncId) (vs : List V) (hp : Hp) (r : Ret) : Prop :=
  FnTidy hp r ∧ ∀ (I : Nat → Prop) (w : World) (μ : Mu) (vals : Array Value), V.RL P I μ w vs vals.toList → Pre P I μ w hp (List.range hp.length) r.hp.length → (∀ b g, μ b = some g → b < hp.length) →
    Calls P f vals w fun e w' => ∃ val μ' I', e = .returned val ∧ V.R P I' μ' w' r.v val ∧ Good P I I' μ μ' w w' hp r.hp (List.range hp.length) r.wr

def CallOK (P : Program) (callF : CallF) : Prop := ∀ f vs hp r, callF f vs hp = some r → FnOK P f vs hp r

theorem zipIdx_at {α β : Type} (l : List α) (f : α × Nat → β) (b : Nat) : ((l.zipIdx).map f)[b]? = (l[b]?).map fun x => f (x, b) := by
  simp [List.getElem?_map, List.getElem?_zipIdx]
  cases l[b]? <;> simp

theorem call_sound {callF : CallF} (hc : CallOK P callF) {f : FuncId} {vs : List V} {vals : Array Value} (h : evCall callF hp f vs = some out) (hv : V.RL P I μ w vs vals.toList) (pre : Pre P I μ w hp out.acc out.hp.length) :
    Calls P f vals w fun e w' => ∃ val μ' I', e = .returned val ∧ V.R P I' μ' w' out.v val ∧ Good P I I' μ μ' w w' hp out.hp out.acc out.wr := by
  unfold evCall at h
  simp only at h
  generalize hids : reach hp 100000 (V.refsL vs) [] = ids at h
  obtain ⟨hnd, hal⟩ := reach_good hp 100000 (V.refsL vs) [] (by simp) (by simp)
  rw [hids] at hnd hal
  split at h
  case h_2 => cases h
  case h_1 r hr =>
  cases h
  obtain ⟨ht, hok⟩ := hc _ _ _ _ hr
  generalize hsub : (ids.map fun b => renB (pos ids) (hp.getD b none)) = sub at hr ht hok
  have hsl : sub.length = ids.length := by rw [← hsub]; simp
  have hlt : ∀ b ∈ ids, b < hp.length := fun b hb => by obtain ⟨blk, h⟩ := hal b hb; exact at_lt h
  let μc : Mu := fun j => match ids[j]? with
    | some b => μ b
    | none => none
  have hμc : ∀ j b, ids[j]? = some b → μc j = μ b := by intro j b h; simp [μc, h]
  have hμn : ∀ j, ids.length ≤ j → μc j = none := by intro j h; simp [μc, List.getElem?_eq_none h]
  have hρ : ∀ b b' g, pos ids b = some b' → μ b = some g → μc b' = some g := by
    intro b b' g hb hg; rw [hμc b' b (pos_spec hb)]; exact hg
  have hsubat : ∀ (j b : Nat), ids[j]? = some b → ∀ blk : Blk, hp[b]? = some (some blk) → sub[j]? = some (some (V.renL (pos ids) blk.1, blk.2)) := by
    intro j b hj blk hblk
    rw [← hsub, List.getElem?_map, hj]
    simp [List.getD_eq_getElem?_getD, hblk, renB]
  have hsubinv : ∀ (j : Nat) (blk : Blk), sub[j]? = some (some blk) → ∃ b blk0, ids[j]? = some b ∧ hp[b]? = some (some blk0) ∧ blk = (V.renL (pos ids) blk0.1, blk0.2) := by
    intro j blk hj
    rw [← hsub, List.getElem?_map] at hj
    obtain ⟨b, hb, hj⟩ := Option.map_eq_some_iff.1 hj
    obtain ⟨blk0, hb0⟩ := hal b (List.mem_of_getElem? hb)
    simp only [List.getD_eq_getElem?_getD, hb0, Option.getD_some, renB, Option.map_some] at hj
    exact ⟨b, blk0, hb, hb0, (by cases hj; rfl)⟩
  have hpre : Pre P I μc w sub (List.range sub.length) r.hp.length := by
    refine ⟨pre.ilt, fun j hj blk hblk => ?_, fun j hj k hk b1 b2 g hne h1 h2 g1 g2 => ?_, fun j hj _ => hμn j (by omega)⟩
    · obtain ⟨b, blk0, hb, hb0, rfl⟩ := hsubinv j blk hblk
      exact (pre.holds b (List.mem_of_getElem? hb) blk0 hb0).ren hρ fun g hg => by rw [hμc j b hb]; exact hg
    · obtain ⟨b, c0, hb, hb0, _⟩ := hsubinv j b1 h1
      obtain ⟨c, c1, hc, hc0, _⟩ := hsubinv k b2 h2
      rw [hμc j b hb] at g1
      rw [hμc k c hc] at g2
      refine pre.inj b (List.mem_of_getElem? hb) c (List.mem_of_getElem? hc) _ _ g (fun e => hne ?_) hb0 hc0 g1 g2
      subst e
      have h1 := pos_of hnd hb
      rw [pos_of hnd hc] at h1
      cases h1; rfl
  have hdomc : ∀ b g, μc b = some g → b < sub.length := by
    intro j g hg
    rcases Nat.lt_or_ge j sub.length with h | h
    · exact h
    · rw [hμn j (by omega)] at hg; cases hg
  refine (hok I w μc vals (renL_sound hρ _ _ hv) hpre hdomc).mono ?_
  rintro e w' ⟨val, μc', I', rfl, hR, hG⟩
  have htop : (hp.length + (r.hp.length - ids.length)) = ((hp.zipIdx.map fun x => if (r.wr.filterMap fun j => ids[j]?).contains x.2 then renB (backTo ids hp.length) (((pos ids x.2).bind fun j => r.hp[j]?).getD none) else x.1) ++ (r.hp.drop ids.length).map (renB (backTo ids hp.length))).length := by simp
  let μ' : Mu := fun b => if b < hp.length then μ b else if b < hp.length + (r.hp.length - ids.length) then μc' (ids.length + (b - hp.length)) else μ b
  have hμ'o : ∀ b, b < hp.length → μ' b = μ b := fun b hb => by simp [μ', hb]
  have hlenr : ids.length ≤ r.hp.length := by have := ht.len; omega
  have hμ'n : ∀ k, ids.length + k < r.hp.length → μ' (hp.length + k) = μc' (ids.length + k) := fun k hk => by
    have h1 : ¬ hp.length + k < hp.length := by omega
    have h2 : hp.length + k < hp.length + (r.hp.length - ids.length) := by omega
    simp only [μ', h1, h2, if_true, if_false]
    rw [show ids.length + (hp.length + k - hp.length) = ids.length + k by omega]
  have hdomc' : ∀ j g, μc' j = some g → j < r.hp.length := by
    intro j g hg
    rcases hG.dom j g hg with h | ⟨_, h⟩
    · have := hdomc j g h; have := ht.len; omega
    · exact h
  have hold : ∀ j b, ids[j]? = some b → ∀ g, μc' j = some g → μ b = some g := by
    intro j b hj g hg
    have hjl : j < ids.length := (List.getElem?_eq_some_iff.1 hj).1
    rcases hG.dom j g hg with h | ⟨h, _⟩
    · rwa [hμc j b hj] at h
    · omega
  have hle : MuLe μ μ' := by
    intro b g hb
    rcases Nat.lt_or_ge b hp.length with h | h
    · rw [hμ'o b h]; exact hb
    · rcases Nat.lt_or_ge b (hp.length + (r.hp.length - ids.length)) with h2 | h2
      · rw [pre.fresh b h (by rw [← htop]; exact h2)] at hb; cases hb
      · have h1 : ¬ b < hp.length := by omega
        have h3 : ¬ b < hp.length + (r.hp.length - ids.length) := by omega
        simp only [μ', h1, h3, if_false]; exact hb
  have hback : ∀ j b' g, backTo ids hp.length j = some b' → μc' j = some g → μ' b' = some g := by
    intro j b' g hj hg
    unfold backTo at hj
    split at hj
    · have := hold j b' hj g hg
      rw [hμ'o b' (hlt b' (List.mem_of_getElem? hj))]; exact this
    · rename_i hjl
      cases hj
      have := hdomc' j g hg
      rw [hμ'n _ (by omega)]
      rw [show ids.length + (j - ids.length) = j by omega]; exact hg
  have hX : Evo I w w' (fun k => ∃ b ∈ r.wr.filterMap (fun j => ids[j]?), μ b = some k) := hG.evo.mono fun k hk => by
    obtain ⟨j, hj, hk⟩ := hk
    have hjl := ht.wrb j hj
    have hjb : ids[j]? = some ids[j] := List.getElem?_eq_getElem (by omega)
    exact ⟨ids[j], List.mem_filterMap.2 ⟨j, hj, hjb⟩, by rw [← hμc j _ hjb]; exact hk⟩
  generalize hhp' : ((hp.zipIdx.map fun x => if (r.wr.filterMap fun j => ids[j]?).contains x.2 then renB (backTo ids hp.length) (((pos ids x.2).bind fun j => r.hp[j]?).getD none) else x.1) ++ (r.hp.drop ids.length).map (renB (backTo ids hp.length))) = hp' at htop pre ⊢
  -- the blocks of the new heap: where they come from
  have hA : ∀ b blk, hp'[b]? = some (some blk) → (b < hp.length ∧ b ∉ r.wr.filterMap (fun j => ids[j]?) ∧ hp[b]? = some (some blk)) ∨
      (∃ j blk0, r.hp[j]? = some (some blk0) ∧ blk = (V.renL (backTo ids hp.length) blk0.1, blk0.2) ∧ (∀ g, μ' b = some g → μc' j = some g) ∧ (∀ g, μc' j = some g → μ' b = some g) ∧ ((b < hp.length ∧ ids[j]? = some b ∧ j ∈ r.wr) ∨ (hp.length ≤ b ∧ j = ids.length + (b - hp.length)))) := by
    intro b blk hb
    rw [← hhp', List.getElem?_append] at hb
    simp only [List.length_map, List.length_zipIdx] at hb
    split at hb
    · rename_i hbl
      rw [zipIdx_at] at hb
      obtain ⟨x, hx, hb⟩ := Option.map_eq_some_iff.1 hb
      simp only at hb
      split at hb
      · rename_i hw
        have hw' : b ∈ r.wr.filterMap fun j => ids[j]? := by simpa using hw
        obtain ⟨j, hj, hjb⟩ := List.mem_filterMap.1 hw'
        rw [pos_of hnd hjb] at hb
        obtain ⟨blk0, h0, rfl⟩ := renB_some hb
        have h1 : r.hp[j]? = some (some blk0) := by
          simp only [Option.bind_some] at h0
          cases hrj : r.hp[j]? with
          | none => rw [hrj] at h0; cases h0
          | some y => rw [hrj] at h0; simp at h0; rw [h0]
        have hjl : j < ids.length := (List.getElem?_eq_some_iff.1 hjb).1
        refine .inr ⟨j, blk0, h1, rfl, fun g hg => ?_, fun g hg => ?_, .inl ⟨hbl, hjb, hj⟩⟩
        · rw [hμ'o b hbl, ← hμc j b hjb] at hg; exact hG.le j g hg
        · rw [hμ'o b hbl]; exact hold j b hjb g hg
      · rename_i hw
        have hw' : b ∉ r.wr.filterMap fun j => ids[j]? := by simpa using hw
        exact .inl ⟨hbl, hw', by rw [hx, hb]⟩
    · rename_i hbl
      rw [List.getElem?_map, List.getElem?_drop] at hb
      obtain ⟨x, hx, hb⟩ := Option.map_eq_some_iff.1 hb
      obtain ⟨blk0, rfl, rfl⟩ := renB_some hb
      have hlt' := (List.getElem?_eq_some_iff.1 hx).1
      have e : μ' b = μc' (ids.length + (b - hp.length)) := by
        have := hμ'n (b - hp.length) hlt'
        rwa [show hp.length + (b - hp.length) = b by omega] at this
      exact .inr ⟨_, blk0, hx, rfl, fun g hg => by rw [← e]; exact hg, fun g hg => by rw [e]; exact hg, .inr ⟨by omega, rfl⟩⟩
  have hjr : ∀ j, j < ids.length → j ∈ List.range sub.length := fun j hj => by simp; omega
  have hin : ∀ b j, (b ∈ ids ∨ hp.length ≤ b) → ((b < hp.length ∧ ids[j]? = some b ∧ j ∈ r.wr) ∨ (hp.length ≤ b ∧ j = ids.length + (b - hp.length))) → (j ∈ List.range sub.length ∨ sub.length ≤ j) := by
    rintro b j _ (⟨_, h, _⟩ | ⟨_, h⟩)
    · exact .inl (hjr j (List.getElem?_eq_some_iff.1 h).1)
    · exact .inr (by omega)
  have hdeadw : ∀ c, c ∈ r.wr → r.hp[c]? = some none → ∀ k, μc c = some k → ∃ d ∈ r.wr.filterMap (fun j => ids[j]?), μ d = some k ∧ (∃ blk, hp[d]? = some (some blk)) ∧ hp'[d]? = some none := by
    intro c hcw hcn k hcg
    have hcl := ht.wrb c hcw
    have hcb : ids[c]? = some (ids[c]'(by omega)) := List.getElem?_eq_getElem (by omega)
    generalize ids[c]'(by omega) = d at hcb
    have hdw : d ∈ r.wr.filterMap fun j => ids[j]? := List.mem_filterMap.2 ⟨c, hcw, hcb⟩
    have hdl := hlt d (List.mem_of_getElem? hcb)
    refine ⟨d, hdw, by rw [← hμc c d hcb]; exact hcg, hal d (List.mem_of_getElem? hcb), ?_⟩
    rw [← hhp', List.getElem?_append_left (by simpa using hdl), zipIdx_at, List.getElem?_eq_getElem hdl]
    simp only [Option.map_some]
    rw [if_pos (by simpa using hdw), pos_of hnd hcb]
    simp [hcn, renB]
  have hnimm : ∀ b blk g, b ∈ ids → b ∉ r.wr.filterMap (fun j => ids[j]?) → hp[b]? = some (some blk) → μ b = some g → ¬ I' g := by
    intro b blk g hbi hbw hb0 hg hI
    have hh := pre.holds b hbi blk hb0
    rcases hG.igrow g hI with h | ⟨h, _⟩ | ⟨c, hcw, hcg, _, hcn⟩
    · exact hh.nimm hg h
    · have := hh.lt hg; omega
    · obtain ⟨d, hdw, hdg, ⟨_, hda⟩, _⟩ := hdeadw c hcw hcn g hcg
      obtain ⟨j, _, hj⟩ := List.mem_filterMap.1 hdw
      exact pre.inj b hbi d (List.mem_of_getElem? hj) _ _ g (by rintro rfl; exact hbw hdw) hb0 hda hg hdg
  refine ⟨val, μ', I', rfl, ren_sound hback _ _ hR, ⟨hG.isub, fun k hk => ?_, hX, hle, fun b g hb => ?_, fun b hb blk hblk => ?_, fun b hb blk hblk g hg => ?_, fun b c b1 b2 g hne hb hc h1 h2 g1 g2 => ?_⟩⟩
  · rcases hG.igrow k hk with h | h | ⟨c, hcw, hcg, _, hcn⟩
    · exact .inl h
    · exact .inr (.inl h)
    · exact .inr (.inr (hdeadw c hcw hcn k hcg))
  · rcases Nat.lt_or_ge b hp.length with h | h
    · rw [hμ'o b h] at hb; exact .inl hb
    · rcases Nat.lt_or_ge b (hp.length + (r.hp.length - ids.length)) with h2 | h2
      · exact .inr ⟨h, by rw [← htop]; exact h2⟩
      · have h1 : ¬ b < hp.length := by omega
        have h3 : ¬ b < hp.length + (r.hp.length - ids.length) := by omega
        simp only [μ', h1, h3, if_false] at hb; exact .inl hb
  · rcases hA b blk hblk with ⟨hbl, hnw, h0⟩ | ⟨j, blk0, hj, rfl, _, hm, hw⟩
    · have hbi : b ∈ ids := by rcases hb with hb | hb; exact hb; omega
      refine (pre.holds b hbi blk h0).keep hX hG.isub hle (fun g hg hx => ?_) (fun g hg => hnimm b blk g hbi hnw h0 hg)
      obtain ⟨c, hc, hcg⟩ := hx
      obtain ⟨j, _, hjc⟩ := List.mem_filterMap.1 hc
      have hci : c ∈ ids := List.mem_of_getElem? hjc
      obtain ⟨blk', hc'⟩ := hal c hci
      exact pre.inj b hbi c hci _ _ g (by rintro rfl; exact hnw hc) h0 hc' hg hcg
    · exact (hG.holds j (hin b j hb hw) blk0 hj).ren hback hm
  · rcases hA b blk hblk with ⟨hbl, _⟩ | ⟨j, blk0, hj, rfl, hm, _, hw⟩
    · omega
    · rcases hw with ⟨hbl, _⟩ | ⟨_, hjb⟩
      · omega
      · rcases hG.prov j (by omega) blk0 hj g (hm g hg) with h | ⟨c, hcw, hcg, hca, hcn⟩
        · exact .inl h
        · exact .inr (hdeadw c hcw hcn g hcg)
  · rcases hA b b1 h1 with ⟨hbl, hbw, hb0⟩ | ⟨j, bj, hj, rfl, hm1, _, hw1⟩
    · have hbi : b ∈ ids := by rcases hb with hb | hb; exact hb; omega
      rw [hμ'o b hbl] at g1
      rcases hA c b2 h2 with ⟨hcl, hcw, hc0⟩ | ⟨k, bk, hk, rfl, hm2, _, hw2⟩
      · have hci : c ∈ ids := by rcases hc with hc | hc; exact hc; omega
        rw [hμ'o c hcl] at g2
        exact pre.inj b hbi c hci _ _ g hne hb0 hc0 g1 g2
      · rcases hw2 with ⟨hcl, hck, hkw⟩ | ⟨hcl, hck⟩
        · rw [hμ'o c hcl] at g2
          have hci : c ∈ ids := List.mem_of_getElem? hck
          obtain ⟨_, hc0⟩ := hal c hci
          exact pre.inj b hbi c hci _ _ g hne hb0 hc0 g1 g2
        · rcases hG.prov k (by omega) bk hk g (hm2 g g2) with h | ⟨d, hdw, hdg, _, _⟩
          · have := (pre.holds b hbi _ hb0).lt g1; omega
          · have hdl := ht.wrb d hdw
            have hdb : ids[d]? = some (ids[d]'(by omega)) := List.getElem?_eq_getElem (by omega)
            generalize ids[d]'(by omega) = q at hdb
            have hqw : q ∈ r.wr.filterMap fun j => ids[j]? := List.mem_filterMap.2 ⟨d, hdw, hdb⟩
            obtain ⟨_, hq0⟩ := hal q (List.mem_of_getElem? hdb)
            rw [hμc d q hdb] at hdg
            exact pre.inj b hbi q (List.mem_of_getElem? hdb) _ _ g (by rintro rfl; exact hbw hqw) hb0 hq0 g1 hdg
    · rcases hA c b2 h2 with ⟨hcl, hcw, hc0⟩ | ⟨k, bk, hk, rfl, hm2, _, hw2⟩
      · have hci : c ∈ ids := by rcases hc with hc | hc; exact hc; omega
        rw [hμ'o c hcl] at g2
        rcases hw1 with ⟨hbl, hbj, hjw⟩ | ⟨hbl, hbj⟩
        · rw [hμ'o b hbl] at g1
          have hbi : b ∈ ids := List.mem_of_getElem? hbj
          obtain ⟨_, hb0⟩ := hal b hbi
          exact pre.inj b hbi c hci _ _ g hne hb0 hc0 g1 g2
        · rcases hG.prov j (by omega) bj hj g (hm1 g g1) with h | ⟨d, hdw, hdg, _, _⟩
          · have := (pre.holds c hci _ hc0).lt g2; omega
          · have hdl := ht.wrb d hdw
            have hdb : ids[d]? = some (ids[d]'(by omega)) := List.getElem?_eq_getElem (by omega)
            generalize ids[d]'(by omega) = q at hdb
            have hqw : q ∈ r.wr.filterMap fun j => ids[j]? := List.mem_filterMap.2 ⟨d, hdw, hdb⟩
            obtain ⟨_, hq0⟩ := hal q (List.mem_of_getElem? hdb)
            rw [hμc d q hdb] at hdg
            exact pre.inj c hci q (List.mem_of_getElem? hdb) _ _ g (by rintro rfl; exact hcw hqw) hc0 hq0 g2 hdg
      · refine hG.inj j k _ _ g (fun e => hne ?_) (hin b j hb hw1) (hin c k hc hw2) hj hk (hm1 g g1) (hm2 g g2)
        subst e
        rcases hw1 with ⟨_, h3, _⟩ | ⟨_, h3⟩ <;> rcases hw2 with ⟨_, h4, _⟩ | ⟨_, h4⟩
        · rw [h3] at h4; cases h4; rfl
        · have := (List.getElem?_eq_some_iff.1 h3).1; omega
        · have := (List.getElem?_eq_some_iff.1 h4).1; omega
        · omega

theorem call_tidy {callF : CallF} (hc : CallOK P callF) {f : FuncId} {vs : List V} (h : evCall callF hp f vs = some out) : Tidy hp out.hp out.acc out.wr := by
  unfold evCall at h
  simp only at h
  generalize hids : reach hp 100000 (V.refsL vs) [] = ids at h
  obtain ⟨hnd, hal⟩ := reach_good hp 100000 (V.refsL vs) [] (by simp) (by simp)
  rw [hids] at hnd hal
  split at h
  case h_2 => cases h
  case h_1 r hr =>
  cases h
  obtain ⟨ht, _⟩ := hc _ _ _ _ hr
  have hlt : ∀ b ∈ ids, b < hp.length := fun b hb => by obtain ⟨blk, h⟩ := hal b hb; exact at_lt h
  refine ⟨by simp, fun b hb hn => ?_, fun b hb => ?_, hlt, fun b hb => ?_⟩
  · rw [List.getElem?_append_left (by simpa using hb), zipIdx_at, List.getElem?_eq_getElem hb]
    simp only [Option.map_some]
    rw [if_neg (by simpa using hn)]
  · obtain ⟨j, _, hj⟩ := List.mem_filterMap.1 hb; exact List.mem_of_getElem? hj
  · obtain ⟨j, _, hj⟩ := List.mem_filterMap.1 hb; exact hal b (List.mem_of_getElem? hj)

end
end Go.Proofs.YtjgancippgpdhaaGreatDoor

namespace Go.Proofs.YtjgancippgpdhaaGreatDoor
open Go.RowKit

section
variable {P : Program} {I : Nat → Prop} {μ μ' : Mu} {w w' : World} {hp : Hp} {out : Out}

/-- No function of the program is the one that the machine answers itself. -/
def Named (P : Program) : Prop := ∀ (f : FuncId) (fn : Func), P.funcs[f]? = some fn → fn.name ≠ "runtime.NumGoroutine"
/-- What is evaluated has a body. -/
def Bodied (P : Program) (callF : CallF) : Prop := ∀ f vs hp r, callF f vs hp = some r → ∃ fn, P.funcs[f]? = some fn ∧ fn.body.isSome = true

theorem op_wp {callF : CallF} (hn : Named P) (hb : Bodied P callF) (hc : CallOK P callF) {o : Oper} {e : Operand → V} {a : Act} {K : Act → World → Prop} {Q : Exit → Act → World → Prop} (h : evOp P callF e hp o.op = some out)
    (hops : ∀ x ∈ o.op.operands, V.R P I μ w (e x) (a.eval x)) (pre : Pre P I μ w hp out.acc out.hp.length)
    (hK : ∀ val w' μ' I', V.R P I' μ' w' out.v val → Good P I I' μ μ' w w' hp out.hp out.acc out.wr → K (a.put o.dst val) w') : o.wp P a w K Q := by
  unfold evOp at h
  split at h
  · rename_i f args ts hop
    rw [hop] at hops
    split at h
    case h_2 => cases h
    case h_1 g cap hf =>
    have hfv := hops f (by simp [Op.operands, Call.operands])
    rw [hf] at hfv
    simp only [V.R] at hfv
    obtain ⟨vs, hfv, hcap⟩ := hfv
    have hargs : V.RL P I μ w (args.toList.map e ++ cap) ((args.map a.eval) ++ vs).toList := by
      rw [Array.toList_append, Array.toList_map]
      exact (RL_map fun x hx => hops x (by simp only [Op.operands, Call.operands]; exact Array.mem_append.2 (.inr (by simpa using hx)))).append hcap
    have hbody : ∃ fn, P.funcs[g]? = some fn ∧ fn.body.isSome = true := by
      unfold evCall at h
      simp only at h
      split at h
      · rename_i r hr; exact hb _ _ _ _ hr
      · cases h
    obtain ⟨fn, hfn, hbd⟩ := hbody
    have hrun : (execOp a.eval o).run P w = .ok (.enter g ((args.map a.eval) ++ vs)) w := by
      have hbd' : fn.body.isNone = false := by cases hq : fn.body <;> simp_all
      have hname : (fn.name == "runtime.NumGoroutine") = false := by simpa using hn g fn hfn
      simp only [execOp, hop, resolve, hfv, Deferred.ofValue, Sem.run_bind, Sem.run_pure, Result.andThen_ok, invoke, callFunc, run_program, hfn, hname, hbd', Bool.false_eq_true, if_false, Array.empty_append]
    unfold Oper.wp
    rw [hrun]
    refine (call_sound hc h hargs pre).mono ?_
    rintro e' w' ⟨val, μ', I', rfl, hR, hG⟩
    exact hK val w' μ' I' hR hG
  · rename_i x name args ts hop
    rw [hop] at hops
    split at h
    case h_2 => cases h
    case h_1 t v hx =>
    split at h
    case h_2 => cases h
    case h_1 g hmt =>
    have hxv := hops x (by simp [Op.operands, Call.operands])
    rw [hx] at hxv
    simp only [V.R, V.RL] at hxv
    obtain ⟨vs, hxv, u, us, hvs, hvu, rfl⟩ := hxv
    obtain rfl : vs = #[u] := by cases vs; simp_all
    have hargs : V.RL P I μ w (v :: args.toList.map e) (#[u] ++ args.map a.eval).toList := by
      rw [Array.toList_append, Array.toList_map]
      simp only [V.RL, List.cons_append, List.nil_append]
      exact ⟨u, _, rfl, hvu, RL_map fun y hy => hops y (by simp only [Op.operands, Call.operands]; exact Array.mem_append.2 (.inr (by simpa using hy)))⟩
    have hbody : ∃ fn, P.funcs[g]? = some fn ∧ fn.body.isSome = true := by
      unfold evCall at h
      simp only at h
      split at h
      · rename_i r hr; exact hb _ _ _ _ hr
      · cases h
    have hrun : (execOp a.eval o).run P w = .ok (.enter g (#[u] ++ args.map a.eval)) w := by
      have hm := mtab_ok hmt u (args.map a.eval) w
      have e0 : (#[Value.iface t u] ++ args.map a.eval)[0]? = some (.iface t u) := by
        rw [Array.getElem?_append]; simp
      have e1 : (#[Value.iface t u] ++ args.map a.eval).extract 1 (#[Value.iface t u] ++ args.map a.eval).size = args.map a.eval := by
        apply Array.ext'
        simp only [Array.toList_extract, List.extract_eq_take_drop, Array.toList_append, Array.toList_map, List.cons_append, List.nil_append, List.drop_succ_cons, List.drop_zero]
        rw [List.take_of_length_le (by simp)]
      have e2 : BK.mk (.iface t) #[u] = .iface t u := rfl
      simp only [execOp, hop, resolve, hxv, e2, Sem.run_bind, Sem.run_pure, Result.andThen_ok, invoke, e0, e1]
      exact hm
    unfold Oper.wp
    rw [hrun]
    refine (call_sound hc h hargs pre).mono ?_
    rintro e' w' ⟨val, μ', I', rfl, hR, hG⟩
    exact hK val w' μ' I' hR hG
  · split at h
    · rename_i hpl
      cases h
      obtain ⟨nx, val, w', μ', h1, h2, h3, h4⟩ := plain_sound hpl hops pre
      unfold Oper.wp
      rw [h1]
      rcases h2 with rfl | ⟨rfl, rfl⟩
      · exact hK _ _ _ _ h3 h4
      · exact hK _ _ _ _ h3 h4
    · obtain ⟨val, w', μ', h1, h3, h4⟩ := more_sound (fun _ => rfl) h hops pre
      unfold Oper.wp
      rw [h1]
      exact hK _ _ _ _ h3 h4

theorem op_tidy {callF : CallF} (hc : CallOK P callF) {o : Op} {e : Operand → V} (h : evOp P callF e hp o = some out) : Tidy hp out.hp out.acc out.wr := by
  unfold evOp at h
  split at h
  · split at h
    · exact call_tidy hc h
    · cases h
  · split at h
    · split at h
      · exact call_tidy hc h
      · cases h
    · cases h
  · split at h
    · rename_i hpl; cases h; exact plain_tidy hpl
    · exact more_tidy h

/-- The last writer's. -/
def lw {α : Type} (touch : Nat → Bool) (can : Nat → α) (L : Nat → Bool) : Nat → α
  | 0 => can 0
  | n + 1 => if L n && touch n then can (n + 1) else lw touch can L n

theorem lw_full {α : Type} {touch : Nat → Bool} {can : Nat → α} {L : Nat → Bool} : ∀ {j : Nat}, (∀ i, i < j → touch i = true → L i = true) → (∀ i, i < j → touch i = false → can (i + 1) = can i) → lw touch can L j = can j
  | 0, _, _ => rfl
  | j + 1, h, k => by
    unfold lw
    cases ht : touch j with
    | true => simp [h j (by omega) ht]
    | false =>
      simp only [Bool.and_false, Bool.false_eq_true, if_false, k j (by omega) ht]
      exact lw_full (fun i hi => h i (by omega)) (fun i hi => k i (by omega))
theorem lw_skip {α : Type} {touch : Nat → Bool} {can : Nat → α} {L : Nat → Bool} {j : Nat} : ∀ {n : Nat}, j ≤ n → (∀ i, j ≤ i → i < n → touch i = true → L i = false) → lw touch can L n = lw touch can L j
  | 0, h, _ => by rw [show j = 0 by omega]
  | n + 1, h, k => by
    by_cases e : j = n + 1
    · rw [e]
    · rw [lw]
      have : (L n && touch n) = false := by
        cases ht : touch n with
        | true => simp [k n (by omega) (by omega) ht]
        | false => simp
      rw [this, if_neg (by simp), lw_skip (by omega) fun i h1 h2 => k i h1 (by omega)]
def addL (L : Nat → Bool) (j : Nat) : Nat → Bool := fun i => i == j || L i
theorem lw_add_ne {α : Type} {touch : Nat → Bool} {can : Nat → α} {L : Nat → Bool} {j : Nat} (h : touch j = false) : ∀ n, lw touch can (addL L j) n = lw touch can L n
  | 0 => rfl
  | n + 1 => by
    unfold lw
    rw [lw_add_ne h n]
    by_cases e : n = j
    · subst e; simp [h]
    · simp [addL, e]
theorem lw_add_eq {α : Type} {touch : Nat → Bool} {can : Nat → α} {L : Nat → Bool} {j n : Nat} (hj : j < n) (h : touch j = true) (k : ∀ i, j < i → i < n → touch i = true → L i = false) : lw touch can (addL L j) n = can (j + 1) := by
  rw [lw_skip (j := j + 1) (by omega) (fun i h1 h2 h3 => by simp only [addL]; rw [k i (by omega) h2 h3]; simp; omega)]
  unfold lw
  simp [addL, h]

end

/-- A region's run in its own order: the states between. -/
structure Run (P : Program) (ops : Array Oper) (sn : Nat → St) (ac wr : Nat → List Nat) : Prop where
  step : ∀ i o, ops[i]? = some o → ∃ callF, Bodied P callF ∧ CallOK P callF ∧ evStep P callF ops (sn i) o = some (sn (i + 1), ac i, wr i)

section
variable {P : Program} {callF : CallF} {ops : Array Oper} {sn : Nat → St} {ac wr : Nat → List Nat}

def touchB (sn : Nat → St) (wr : Nat → List Nat) (b i : Nat) : Bool := (wr i).contains b || (decide ((sn i).hp.length ≤ b) && decide (b < (sn (i + 1)).hp.length))
def touchT (ops : Array Oper) (t i : Nat) : Bool := ((ops[i]?).bind (·.dst)) == some t

theorem step_parts (hc : CallOK P callF) {s s' : St} {o : Oper} {acc wrs : List Nat} (h : evStep P callF ops s o = some (s', acc, wrs)) :
    Tidy s.hp s'.hp acc wrs ∧ s'.wr = s.wr ++ wrs ∧ ∃ v, s'.tm = putV s.tm o.dst v := by
  unfold evStep at h
  simp only [putK_eq, forceV_eq, forceW_eq] at h
  split at h
  · split at h
    · rename_i out ho
      cases h
      exact ⟨op_tidy hc ho, rfl, _, rfl⟩
    · cases h
  · cases h
    exact ⟨.same _ (by simp), by simp, _, rfl⟩
  · cases h

theorem Run.parts (hr : Run P ops sn ac wr) (i : Nat) (o : Oper) (ho : ops[i]? = some o) : Tidy (sn i).hp (sn (i + 1)).hp (ac i) (wr i) ∧ (sn (i + 1)).wr = (sn i).wr ++ wr i ∧ ∃ v, (sn (i + 1)).tm = putV (sn i).tm o.dst v := by
  obtain ⟨callF, _, hc, h⟩ := hr.step i o ho
  exact step_parts hc h

theorem putV_ne {tm : Tm} {d : Option Tmp} {v : V} {t : Nat} (h : d ≠ some t) : (putV tm d v).get t = tm.get t := by
  cases d with
  | none => rfl
  | some d => exact tm.get_ne v (fun e => h (by rw [e]))
theorem putV_len (tm : Tm) (d : Option Tmp) (v : V) : (putV tm d v).n = tm.n := by
  cases d <;> rfl

theorem lens (hr : Run P ops sn ac wr) : ∀ {i j : Nat}, i ≤ j → j ≤ ops.size → (sn i).hp.length ≤ (sn j).hp.length := by
  intro i j h
  induction j with
  | zero => intro _; rw [show i = 0 by omega]; exact Nat.le_refl _
  | succ j ih =>
    intro hj
    by_cases e : i = j + 1
    · rw [e]; exact Nat.le_refl _
    · exact Nat.le_trans (ih (by omega) (by omega)) (hr.parts j _ (Array.getElem?_eq_getElem (show j < ops.size by omega))).1.len

end
end Go.Proofs.YtjgancippgpdhaaGreatDoor

namespace Go.Proofs.YtjgancippgpdhaaGreatDoor
open Go.RowKit

section
variable {P : Program} {ops : Array Oper} {sn : Nat → St} {ac wr : Nat → List Nat}

def tmc (ops : Array Oper) (sn : Nat → St) (L : Nat → Bool) (t : Nat) : V := lw (touchT ops t) (fun i => (sn i).tm.get t) L ops.size
def hc (ops : Array Oper) (sn : Nat → St) (wr : Nat → List Nat) (L : Nat → Bool) (b : Nat) : Option (Option Blk) := lw (touchB sn wr b) (fun i => (sn i).hp[b]?) L ops.size

/-- What holds while a region runs: L has run. -/
structure RI (P : Program) (ops : Array Oper) (sn : Nat → St) (wr : Nat → List Nat) (W : List Nat) (I0 : Nat → Prop) (μ0 : Mu) (w0 : World) (L : Nat → Bool) (a : Act) (w : World) (Im : Nat → Prop) (μ : Mu) : Prop where
  tm : ∀ t, V.R P Im μ w (tmc ops sn L t) (a.tmps.getD t undef)
  size : a.tmps.size = (sn 0).tm.n
  defers : a.defers = []
  holds : ∀ b blk, hc ops sn wr L b = some (some blk) → Holds P Im μ w b blk
  inj : ∀ b c blk blk' g, b ≠ c → hc ops sn wr L b = some (some blk) → hc ops sn wr L c = some (some blk') → μ b = some g → μ c = some g → False
  dom : ∀ b g, μ b = some g → μ0 b = some g ∨ ∃ i, L i = true ∧ i < ops.size ∧ (sn i).hp.length ≤ b ∧ b < (sn (i + 1)).hp.length
  evo : Evo I0 w0 w (fun k => ∃ b ∈ W, μ0 b = some k)
  le : MuLe μ0 μ
  prov : ∀ b, (sn 0).hp.length ≤ b → ∀ blk, hc ops sn wr L b = some (some blk) → ∀ g, μ b = some g → w0.heap.size ≤ g ∨ ∃ c ∈ W, μ0 c = some g ∧ Alive (sn 0).hp c ∧ hc ops sn wr L c = some none
  isub : Sub I0 Im
  igrow : ∀ k, Im k → I0 k ∨ w0.heap.size ≤ k ∨ ∃ c ∈ W, μ0 c = some k ∧ Alive (sn 0).hp c ∧ hc ops sn wr L c = some none
  ilt : ILt P Im w

theorem apart_rev {x y : Oper} (h : x.apart ops y = true) : (∀ d, x.dst = some d → d ∉ y.looksAt ops) ∧ (∀ d, x.dst = some d → y.dst ≠ some d) ∧ (∀ d, y.dst = some d → d ∉ x.looksAt ops) := Oper.apart_spec h

theorem touch_back (hr : Run P ops sn ac wr) {b i : Nat} {o : Oper} (ho : ops[i]? = some o) (h : touchB sn wr b i = false) : (sn (i + 1)).hp[b]? = (sn i).hp[b]? := by
  obtain ⟨ht, _, _⟩ := hr.parts i o ho
  simp only [touchB, Bool.or_eq_false_iff, Bool.and_eq_false_iff, decide_eq_false_iff_not] at h
  rcases Nat.lt_or_ge b (sn i).hp.length with hb | hb
  · exact ht.frame b hb (by simpa using h.1)
  · rw [List.getElem?_eq_none hb, List.getElem?_eq_none (by omega)]

/-- Whatever order: one operation more. -/
theorem ri_step (hn : Named P) (hr : Run P ops sn ac wr) {W : List Nat} {I0 Im : Nat → Prop} {μ0 : Mu} {w0 : World} {L : Nat → Bool} {a : Act} {w : World} {μ : Mu} {j : Nat} {o : Oper}
    (hW : ∀ i, i < ops.size → ∀ b ∈ wr i, b ∈ W) (hdom0 : ∀ b g, μ0 b = some g → b < (sn 0).hp.length)
    (ho : ops[j]? = some o) (hj : L j = false)
    (h1 : ∀ i oi, i < j → ops[i]? = some oi → L i = false → oi.apart ops o = true ∧ (∀ b ∈ ac j, touchB sn wr b i = false) ∧ (∀ b ∈ wr j, b ∉ ac i))
    (h2 : ∀ i oi, j < i → ops[i]? = some oi → L i = true → o.apart ops oi = true ∧ (∀ b ∈ ac i, touchB sn wr b j = false) ∧ (∀ b ∈ wr i, b ∉ ac j))
    (I : RI P ops sn wr W I0 μ0 w0 L a w Im μ) {K : Act → World → Prop} {Q : Exit → Act → World → Prop}
    (hK : ∀ a' w' μ' Im', RI P ops sn wr W I0 μ0 w0 (addL L j) a' w' Im' μ' → K a' w') : wpOp P ops Q j K a w := by
  have hjs : j < ops.size := (Array.getElem?_eq_some_iff.1 ho).1
  obtain ⟨callF, hbd, hcall, hstep⟩ := hr.step j o ho
  obtain ⟨htidy, _, vt, htm⟩ := step_parts hcall hstep
  have hat : ∀ i, i < ops.size → ∃ oi, ops[i]? = some oi := fun i hi => ⟨_, Array.getElem?_eq_getElem hi⟩
  have hTd : ∀ i, i < ops.size → Tidy (sn i).hp (sn (i + 1)).hp (ac i) (wr i) := fun i hi => by
    obtain ⟨oi, hoi⟩ := hat i hi
    exact (hr.parts i oi hoi).1
  have hmono : ∀ i k, i ≤ k → k ≤ ops.size → (sn i).hp.length ≤ (sn k).hp.length := fun i k => lens hr
  -- the temporaries that it looks at
  have hlook : ∀ t, t ∈ o.looksAt ops → tmc ops sn L t = (sn j).tm.get t := by
    intro t ht
    unfold tmc
    rw [lw_skip (j := j) (by omega) (fun i hi hin htt => ?_)]
    · refine lw_full (fun i hi htt => ?_) (fun i hi htt => ?_)
      · cases hL : L i with
        | true => rfl
        | false =>
          obtain ⟨oi, hoi⟩ := hat i (by omega)
          have hd : oi.dst = some t := by simpa [touchT, hoi] using htt
          exact absurd ht ((Oper.apart_spec (h1 i oi hi hoi hL).1).1 t hd)
      · obtain ⟨oi, hoi⟩ := hat i (by omega)
        obtain ⟨_, _, v, hv⟩ := hr.parts i oi hoi
        have hd : oi.dst ≠ some t := by simpa [touchT, hoi] using htt
        show (sn (i + 1)).tm.get t = _
        rw [hv, putV_ne hd]
    · cases hL : L i with
      | false => rfl
      | true =>
        rcases Nat.lt_or_ge j i with hlt | hge
        · obtain ⟨oi, hoi⟩ := hat i hin
          have hd : oi.dst = some t := by simpa [touchT, hoi] using htt
          exact absurd ht ((Oper.apart_spec (h2 i oi hlt hoi hL).1).2.2 t hd)
        · have : i = j := by omega
          rw [this, hj] at hL; cases hL
  -- the blocks that it comes to
  have hblk : ∀ b ∈ ac j, hc ops sn wr L b = (sn j).hp[b]? := by
    intro b hb
    have hbl := htidy.accb b hb
    unfold hc
    rw [lw_skip (j := j) (by omega) (fun i hi hin htt => ?_)]
    · refine lw_full (fun i hi htt => ?_) (fun i hi htt => ?_)
      · cases hL : L i with
        | true => rfl
        | false =>
          obtain ⟨oi, hoi⟩ := hat i (by omega)
          rw [(h1 i oi hi hoi hL).2.1 b hb] at htt; cases htt
      · obtain ⟨oi, hoi⟩ := hat i (by omega)
        exact touch_back hr hoi htt
    · cases hL : L i with
      | false => rfl
      | true =>
        rcases Nat.lt_or_ge j i with hlt | hge
        · obtain ⟨oi, hoi⟩ := hat i hin
          have hm := hmono j i (by omega) (by omega)
          simp only [touchB, Bool.or_eq_true, Bool.and_eq_true, decide_eq_true_eq] at htt
          rcases htt with htt | htt
          · exact absurd hb ((h2 i oi hlt hoi hL).2.2 b (by simpa using htt))
          · omega
        · have : i = j := by omega
          rw [this, hj] at hL; cases hL
  -- the temporaries behind it
  have htm' : ∀ t, touchT ops t j = true → tmc ops sn (addL L j) t = (sn (j + 1)).tm.get t := by
    intro t ht
    refine lw_add_eq hjs ht fun i hi hin htt => ?_
    cases hL : L i with
    | false => rfl
    | true =>
      obtain ⟨oi, hoi⟩ := hat i hin
      have hd : oi.dst = some t := by simpa [touchT, hoi] using htt
      have hd' : o.dst = some t := by simpa [touchT, ho] using ht
      exact absurd hd ((Oper.apart_spec (h2 i oi hi hoi hL).1).2.1 t hd')
  have htmn : ∀ t, touchT ops t j = false → tmc ops sn (addL L j) t = tmc ops sn L t := fun t ht => lw_add_ne ht _
  have hhn : ∀ b, touchB sn wr b j = false → hc ops sn wr (addL L j) b = hc ops sn wr L b := fun b hb => lw_add_ne hb _
  have hh' : ∀ b, touchB sn wr b j = true → hc ops sn wr (addL L j) b = (sn (j + 1)).hp[b]? := by
    intro b hb
    refine lw_add_eq hjs hb fun i hi hin htt => ?_
    cases hL : L i with
    | false => rfl
    | true =>
      obtain ⟨oi, hoi⟩ := hat i hin
      have hm := hmono (j + 1) i (by omega) (by omega)
      have hml := htidy.len
      simp only [touchB, Bool.or_eq_true, Bool.and_eq_true, decide_eq_true_eq] at htt
      rcases htt with htt | htt
      · have hbi : b ∈ ac i := (hTd i hin).wracc b (by simpa using htt)
        rw [(h2 i oi hi hoi hL).2.1 b hbi] at hb; cases hb
      · simp only [touchB, Bool.or_eq_true, Bool.and_eq_true, decide_eq_true_eq] at hb
        rcases hb with hb | hb
        · have := htidy.accb b (htidy.wracc b (by simpa using hb)); omega
        · omega
  have hacc' : ∀ b ∈ ac j, hc ops sn wr (addL L j) b = (sn (j + 1)).hp[b]? := by
    intro b hb
    cases ht : touchB sn wr b j with
    | true => exact hh' b ht
    | false => rw [hhn b ht, hblk b hb, touch_back hr ho ht]
  have hnew : ∀ b, (sn j).hp.length ≤ b → b < (sn (j + 1)).hp.length → hc ops sn wr (addL L j) b = (sn (j + 1)).hp[b]? := fun b hb hb' => hh' b (by simp [touchB, hb, hb'])
  have hfresh : ∀ b, (sn j).hp.length ≤ b → b < (sn (j + 1)).hp.length → μ b = none := by
    intro b hb hb'
    cases hm : μ b with
    | none => rfl
    | some g =>
      rcases I.dom b g hm with h | ⟨i, hL, hin, hib, hib'⟩
      · have := hdom0 b g h
        have := hmono 0 j (by omega) (by omega)
        omega
      · exfalso
        rcases Nat.lt_trichotomy i j with hlt | rfl | hgt
        · have := hmono (i + 1) j (by omega) (by omega); omega
        · rw [hj] at hL; cases hL
        · have := hmono (j + 1) i (by omega) (by omega); omega
  have hopr : ∀ x ∈ o.op.operands, V.R P Im μ w (evalV (sn j).tm x) (a.eval x) := by
    intro x hx
    cases x with
    | tmp t =>
      simp only [evalV, Act.eval]
      rw [← hlook t (by unfold Oper.looksAt; exact List.mem_append.2 (.inl (List.mem_filterMap.2 ⟨.tmp t, by simpa using hx, rfl⟩)))]
      exact I.tm t
    | const v => exact R_ofValue v
    | global g => simp [evalV, V.R]
    | func f => simp [evalV, Act.eval, V.R, V.RL]
  -- the step for whatever it comes to
  have fin : ∀ (vv : V) (val : Value) (w' : World) (μ' : Mu) (Im' : Nat → Prop), (sn (j + 1)).tm = putV (sn j).tm o.dst vv → V.R P Im' μ' w' vv val → Good P Im Im' μ μ' w w' (sn j).hp (sn (j + 1)).hp (ac j) (wr j) →
      RI P ops sn wr W I0 μ0 w0 (addL L j) (a.put o.dst val) w' Im' μ' := by
    intro vv val w' μ' Im' hvv hR hG
    have hkeep : ∀ c v, V.R P Im μ w c v → V.R P Im' μ' w' c v := fun c v h => h.keep hG.evo hG.isub hG.le
    have hlt0 : (sn 0).hp.length ≤ (sn j).hp.length := hmono 0 j (by omega) (by omega)
    have halive : ∀ b, b ∈ wr j → ∃ blk, hc ops sn wr L b = some (some blk) := by
      intro b hb
      obtain ⟨blk, h⟩ := htidy.walive b hb
      exact ⟨blk, by rw [hblk b (htidy.wracc b hb)]; exact h⟩
    -- a block of the new state is one that the step came to, or an old one
    have hsplit : ∀ b blk, hc ops sn wr (addL L j) b = some (some blk) → ((b ∈ ac j ∨ (sn j).hp.length ≤ b) ∧ b < (sn (j + 1)).hp.length ∧ (sn (j + 1)).hp[b]? = some (some blk)) ∨ (b ∉ ac j ∧ touchB sn wr b j = false ∧ hc ops sn wr L b = some (some blk)) := by
      intro b blk h
      by_cases hb : b ∈ ac j
      · rw [hacc' b hb] at h; exact .inl ⟨.inl hb, at_lt h, h⟩
      · cases ht : touchB sn wr b j with
        | true =>
          rw [hh' b ht] at h
          simp only [touchB, Bool.or_eq_true, Bool.and_eq_true, decide_eq_true_eq] at ht
          rcases ht with ht | ht
          · exact absurd (htidy.wracc b (by simpa using ht)) hb
          · exact .inl ⟨.inr ht.1, ht.2, h⟩
        | false => rw [hhn b ht] at h; exact .inr ⟨hb, rfl, h⟩
    have hmu : ∀ b g, touchB sn wr b j = false → μ' b = some g → μ b = some g := by
      intro b g hb hg
      rcases hG.dom b g hg with h | ⟨h3, h4⟩
      · exact h
      · simp [touchB, h3, h4] at hb
    have dead : ∀ c, hc ops sn wr L c = some none → hc ops sn wr (addL L j) c = some none := by
      intro c hcn
      cases ht : touchB sn wr c j with
      | false => rw [hhn c ht]; exact hcn
      | true =>
        exfalso
        have ht' := ht
        simp only [touchB, Bool.or_eq_true, Bool.and_eq_true, decide_eq_true_eq] at ht
        rcases ht with ht | ht
        · obtain ⟨blk, hal⟩ := halive c (by simpa using ht)
          rw [hal] at hcn; cases hcn
        · -- not yet there
          have : hc ops sn wr L c = (sn j).hp[c]? := by
            unfold hc
            rw [lw_skip (j := j) (by omega) (fun i hi hin htt => ?_)]
            · refine lw_full (fun i hi htt => ?_) (fun i hi htt => ?_)
              · cases hL : L i with
                | true => rfl
                | false =>
                  simp only [touchB, Bool.or_eq_true, Bool.and_eq_true, decide_eq_true_eq] at htt
                  have hm := hmono (i + 1) j (by omega) (by omega)
                  rcases htt with htt | htt
                  · have := (hTd i (by omega)).accb c ((hTd i (by omega)).wracc c (by simpa using htt))
                    have := hmono i j (by omega) (by omega); omega
                  · omega
              · obtain ⟨oi, hoi⟩ := hat i (by omega)
                exact touch_back hr hoi htt
            · cases hL : L i with
              | false => rfl
              | true =>
                rcases Nat.lt_or_ge j i with hlt | hge
                · obtain ⟨oi, hoi⟩ := hat i hin
                  have hm := hmono (j + 1) i (by omega) (by omega)
                  simp only [touchB, Bool.or_eq_true, Bool.and_eq_true, decide_eq_true_eq] at htt
                  rcases htt with htt | htt
                  · have hbi : c ∈ ac i := (hTd i hin).wracc c (by simpa using htt)
                    rw [(h2 i oi hlt hoi hL).2.1 c hbi] at ht'; cases ht'
                  · omega
                · have : i = j := by omega
                  rw [this, hj] at hL; cases hL
          rw [this, List.getElem?_eq_none ht.1] at hcn; cases hcn
    have fromW : ∀ c k, c ∈ wr j → μ c = some k → (sn (j + 1)).hp[c]? = some none → w0.heap.size ≤ k ∨ ∃ c ∈ W, μ0 c = some k ∧ Alive (sn 0).hp c ∧ hc ops sn wr (addL L j) c = some none := by
      intro c g hcw hcg hcn
      have hca := htidy.walive c hcw
      obtain ⟨b3, hb3⟩ := halive c hcw
      rcases Nat.lt_or_ge c (sn 0).hp.length with hc0 | hc0
      · right
        have hcg0 : μ0 c = some g := by
          rcases I.dom c g hcg with h | ⟨i, _, hi, h3, _⟩
          · exact h
          · have := hmono 0 i (by omega) (by omega); omega
        refine ⟨c, hW j hjs c hcw, hcg0, ?_, by rw [hacc' c (htidy.wracc c hcw)]; exact hcn⟩
        have : ∀ i, i ≤ ops.size → Alive (sn i).hp c → Alive (sn 0).hp c := by
          intro i
          induction i with
          | zero => intro _ h; exact h
          | succ i ih =>
            intro hi ⟨blk, hal⟩
            refine ih (by omega) ?_
            by_cases hw : c ∈ wr i
            · exact (hTd i (by omega)).walive c hw
            · rw [(hTd i (by omega)).frame c (by have := hmono 0 i (by omega) (by omega); omega) hw] at hal; exact ⟨_, hal⟩
        exact this j (by omega) hca
      · rcases I.prov c hc0 b3 hb3 g hcg with h | ⟨d, hdW, hdg, hda, hdn⟩
        · exact .inl h
        · exact .inr ⟨d, hdW, hdg, hda, dead d hdn⟩
    refine ⟨fun t => ?_, ?_, ?_, fun b blk h => ?_, fun b c b1 b2 g hne hb1 hb2 g1 g2 => ?_, fun b g hg => ?_, ?_, I.le.trans hG.le, fun b hb blk h g hg => ?_, fun k h => hG.isub k (I.isub k h), fun k hk => ?_, I.ilt.step hG.evo hG.isub fun k hk => ?_⟩
    · cases ht : touchT ops t j with
      | false =>
        rw [htmn t ht]
        have hd : o.dst ≠ some t := by simpa [touchT, ho] using ht
        have e : (a.put o.dst val).tmps.getD t undef = a.tmps.getD t undef := by
          cases hod : o.dst with
          | none => rfl
          | some d =>
            have hdt : d ≠ t := fun e => hd (by rw [hod, e])
            simp [Act.put, hdt]
        rw [e]
        exact hkeep _ _ (I.tm t)
      | true =>
        rw [htm' t ht, hvv]
        have hd : o.dst = some t := by simpa [touchT, ho] using ht
        have hlen : (sn j).tm.n = (sn 0).tm.n := by
          have : ∀ i, i ≤ ops.size → (sn i).tm.n = (sn 0).tm.n := by
            intro i
            induction i with
            | zero => intro _; rfl
            | succ i ih =>
              intro hi
              obtain ⟨oi, hoi⟩ := hat i (by omega)
              obtain ⟨_, _, v, hv⟩ := hr.parts i oi hoi
              rw [hv, putV_len, ih (by omega)]
          exact this j (by omega)
        rw [hd]
        simp only [putV, Act.put]
        rcases (sn j).tm.get_eq t vv with ⟨e, htl⟩ | e
        · have : t < a.tmps.size := by rw [I.size]; omega
          rw [e]
          simp [this]
          exact hR
        · rw [e]
          simp [V.R]
    · cases hod : o.dst <;> simp [Act.put, I.size]
    · cases hod : o.dst <;> simp [Act.put, I.defers]
    · rcases hsplit b blk h with ⟨hb, _, h'⟩ | ⟨hb, _, h'⟩
      · exact hG.holds b hb blk h'
      · refine (I.holds b blk h').keep hG.evo hG.isub hG.le (fun g hg hx => ?_) (fun g hg hi => ?_)
        · obtain ⟨c, hcw, hcg⟩ := hx
          obtain ⟨blk', hc'⟩ := halive c hcw
          exact I.inj b c _ _ g (by rintro rfl; exact hb (htidy.wracc _ hcw)) h' hc' hg hcg
        · rcases hG.igrow g hi with h | ⟨h, _⟩ | ⟨c, hcw, hcg, _, _⟩
          · exact (I.holds b blk h').nimm hg h
          · have := (I.holds b blk h').lt hg; omega
          · obtain ⟨blk', hc'⟩ := halive c hcw
            exact I.inj b c _ _ g (by rintro rfl; exact hb (htidy.wracc _ hcw)) h' hc' hg hcg
    · have other : ∀ b c b1 b2, b ≠ c → b ∉ ac j → touchB sn wr b j = false → hc ops sn wr L b = some (some b1) → (c ∈ ac j ∨ (sn j).hp.length ≤ c) → c < (sn (j + 1)).hp.length → (sn (j + 1)).hp[c]? = some (some b2) → μ' b = some g → μ' c = some g → False := by
        intro b c b1 b2 hne hb htb hb1 hcc hcl hc2 g1 g2
        have g1' := hmu b g htb g1
        have hbs := (I.holds b b1 hb1).lt g1'
        rcases Nat.lt_or_ge c (sn j).hp.length with hcj | hcj
        · have hca : c ∈ ac j := by rcases hcc with h | h; exact h; omega
          have g2' : μ c = some g := by
            rcases hG.dom c g g2 with h | ⟨h, _⟩
            · exact h
            · omega
          have hal : ∃ blk, hc ops sn wr L c = some (some blk) := by
            rw [hblk c hca]
            by_cases hw : c ∈ wr j
            · exact htidy.walive c hw
            · rw [htidy.frame c hcj hw] at hc2; exact ⟨_, hc2⟩
          obtain ⟨b3, hb3⟩ := hal
          exact I.inj b c _ _ g hne hb1 hb3 g1' g2'
        · rcases hG.prov c hcj b2 hc2 g g2 with h | ⟨d, hdw, hdg, _, _⟩
          · omega
          · obtain ⟨b3, hb3⟩ := halive d hdw
            exact I.inj b d _ _ g (by rintro rfl; exact hb (htidy.wracc _ hdw)) hb1 hb3 g1' hdg
      rcases hsplit b b1 hb1 with ⟨hb, hbl, hb'⟩ | ⟨hb, htb, hb'⟩
      · rcases hsplit c b2 hb2 with ⟨hc1, hcl, hc2⟩ | ⟨hc1, htc, hc2⟩
        · exact hG.inj b c b1 b2 g hne hb hc1 hb' hc2 g1 g2
        · exact other c b b2 b1 (Ne.symm hne) hc1 htc hc2 hb hbl hb' g2 g1
      · rcases hsplit c b2 hb2 with ⟨hc1, hcl, hc2⟩ | ⟨hc1, htc, hc2⟩
        · exact other b c b1 b2 hne hb htb hb' hc1 hcl hc2 g1 g2
        · exact I.inj b c b1 b2 g hne hb' hc2 (hmu b g htb g1) (hmu c g htc g2)
    · rcases hG.dom b g hg with h | ⟨h3, h4⟩
      · rcases I.dom b g h with h | ⟨i, hL, hi⟩
        · exact .inl h
        · exact .inr ⟨i, by simp [addL, hL], hi⟩
      · exact .inr ⟨j, by simp [addL], hjs, h3, h4⟩
    · refine I.evo.trans hG.evo I.isub fun k hk hx => ?_
      obtain ⟨c, hcw, hcg⟩ := hx
      obtain ⟨blk, hal⟩ := halive c hcw
      rcases Nat.lt_or_ge c (sn 0).hp.length with hc0 | hc0
      · refine ⟨c, hW j hjs c hcw, ?_⟩
        rcases I.dom c k hcg with h | ⟨i, _, hi, h3, _⟩
        · exact h
        · have := hmono 0 i (by omega) (by omega); omega
      · rcases I.prov c hc0 blk hal k hcg with h | ⟨d, hdW, hdg, _⟩
        · omega
        · exact ⟨d, hdW, hdg⟩
    · -- where it came from
      rcases hsplit b blk h with ⟨hb1, hbl, h'⟩ | ⟨hb1, htb, h'⟩
      · rcases Nat.lt_or_ge b (sn j).hp.length with hbj | hbj
        · -- an old block that it came to
          have hba : b ∈ ac j := by rcases hb1 with h | h; exact h; omega
          have hal : ∃ blk, hc ops sn wr L b = some (some blk) := by
            rw [hblk b hba]
            by_cases hw : b ∈ wr j
            · exact htidy.walive b hw
            · rw [htidy.frame b hbj hw] at h'; exact ⟨_, h'⟩
          obtain ⟨b3, hb3⟩ := hal
          have hg' : μ b = some g := by
            rcases hG.dom b g hg with h | ⟨h, _⟩
            · exact h
            · omega
          rcases I.prov b hb b3 hb3 g hg' with h | ⟨c, hcW, hcg, hca, hcn⟩
          · exact .inl h
          · exact .inr ⟨c, hcW, hcg, hca, dead c hcn⟩
        · rcases hG.prov b hbj blk h' g hg with h | ⟨c, hcw, hcg, hca, hcn⟩
          · exact .inl (Nat.le_trans I.evo.size h)
          · exact fromW c g hcw hcg hcn
      · rcases I.prov b hb blk h' g (hmu b g htb hg) with h | ⟨c, hcW, hcg, hca, hcn⟩
        · exact .inl h
        · exact .inr ⟨c, hcW, hcg, hca, dead c hcn⟩
    · rcases hG.igrow k hk with h | ⟨h, _⟩ | ⟨c, hcw, hcg, _, hcn⟩
      · rcases I.igrow k h with h | h | ⟨c, hcW, hcg, hca, hcn⟩
        · exact .inl h
        · exact .inr (.inl h)
        · exact .inr (.inr ⟨c, hcW, hcg, hca, dead c hcn⟩)
      · exact .inr (.inl (Nat.le_trans I.evo.size h))
      · exact .inr (fromW c k hcw hcg hcn)
    · rcases hG.igrow k hk with h | ⟨_, h⟩ | ⟨c, hcw, hcg, _, _⟩
      · exact Nat.lt_of_lt_of_le (I.ilt k h) hG.evo.size
      · exact h
      · obtain ⟨b3, hb3⟩ := halive c hcw
        exact Nat.lt_of_lt_of_le ((I.holds c b3 hb3).lt hcg) hG.evo.size
  unfold wpOp
  rw [ho]
  simp only
  unfold evStep at hstep
  simp only [putK_eq, forceV_eq, forceW_eq] at hstep
  have hwanted : ∀ bb, wantedV ops (sn j).tm o = some bb → Region.wanted o (yielded ops a.tmps) = bb := by
    intro bb hbb
    unfold wantedV at hbb
    unfold Region.wanted
    split at hbb
    · rename_i hg; cases hbb; rw [hg]
    · rename_i k want hg
      rw [hg]
      simp only
      split at hbb
      case h_2 => cases hbb
      case h_1 d hd =>
      split at hbb
      case h_3 => cases hbb
      case h_2 vs hbv =>
        cases hbb
        have hlk := hlook d (by unfold Oper.looksAt; rw [hg]; exact List.mem_append.2 (.inr (by simp [hd])))
        have hR := I.tm d
        rw [hlk, hbv] at hR
        simp only [V.R] at hR
        have hy : yielded ops a.tmps k = none := by
          unfold yielded
          rw [hd]
          simp only [Option.bind_some]
          by_cases hdl : d < a.tmps.size
          · simp [Array.getD_eq_getD_getElem?, hdl] at hR
            simp [hdl, hR]
          · simp [hdl]
        rw [hy]
        rfl
      case h_1 bv hbv =>
      cases hbb
      have hlk := hlook d (by unfold Oper.looksAt; rw [hg]; exact List.mem_append.2 (.inr (by simp [hd])))
      have hR := I.tm d
      rw [hlk, hbv] at hR
      simp only [V.R] at hR
      have hy : yielded ops a.tmps k = some bv := by
        unfold yielded
        rw [hd]
        simp only [Option.bind_some]
        by_cases hdl : d < a.tmps.size
        · simp [Array.getD_eq_getD_getElem?, hdl] at hR
          simp [hdl, hR]
        · simp [Array.getD_eq_getD_getElem?, hdl, undef] at hR
      rw [hy]
      cases bv <;> cases want <;> rfl
  split at hstep
  · rename_i hwt
    rw [hwanted true hwt]
    simp only [if_true]
    split at hstep
    case h_2 => cases hstep
    case h_1 out hout =>
    simp only [Option.some.injEq, Prod.mk.injEq] at hstep
    obtain ⟨e1, e2, e3⟩ := hstep
    have ehp : (sn (j + 1)).hp = out.hp := by rw [← e1]
    have etm : (sn (j + 1)).tm = putV (sn j).tm o.dst out.v := by rw [← e1]
    left
    refine op_wp hn hbd hcall hout hopr ⟨I.ilt, fun b hb blk h => ?_, fun b hb c hc' b1 b2 g hne hb1 hb2 g1 g2 => ?_, fun b hb hb' => hfresh b hb (by rw [ehp]; exact hb')⟩ fun val w' μ' Im' hR hG => hK _ _ μ' Im' (fin out.v val w' μ' Im' etm hR (by rw [ehp, ← e2, ← e3]; exact hG))
    · rw [e2] at hb
      exact I.holds b blk (by rw [hblk b hb]; exact h)
    · rw [e2] at hb hc'
      exact I.inj b c b1 b2 g hne (by rw [hblk b hb]; exact hb1) (by rw [hblk c hc']; exact hb2) g1 g2
  · rename_i hwf
    rw [hwanted false hwf]
    simp only [Bool.false_eq_true, if_false]
    simp only [Option.some.injEq, Prod.mk.injEq] at hstep
    obtain ⟨e1, e2, e3⟩ := hstep
    have ehp : (sn (j + 1)).hp = (sn j).hp := by rw [← e1]
    have etm : (sn (j + 1)).tm = putV (sn j).tm o.dst (.lit undef) := by rw [← e1]
    refine hK _ _ μ Im (fin (.lit undef) undef w μ Im etm (by simp [V.R]) ?_)
    rw [ehp, ← e2, ← e3]
    exact Good.same _ ⟨I.ilt, by simp, by simp, fun b hb hb' => by omega⟩
  · cases hstep

end
end Go.Proofs.YtjgancippgpdhaaGreatDoor

namespace Go.Proofs.YtjgancippgpdhaaGreatDoor
open Go.RowKit

/-- How a function was entered. -/
structure Entry (P : Program) (hp0 : Hp) (I0 : Nat → Prop) (μ0 : Mu) (w0 : World) : Prop where
  holds : ∀ b blk, hp0[b]? = some (some blk) → Holds P I0 μ0 w0 b blk
  inj : ∀ b c blk blk' g, b ≠ c → hp0[b]? = some (some blk) → hp0[c]? = some (some blk') → μ0 b = some g → μ0 c = some g → False
  dom : ∀ b g, μ0 b = some g → b < hp0.length

/-- What holds between statements of a function: 'hp0', 'μ0', 'w0': as it was entered. -/
structure CI (P : Program) (hp0 : Hp) (I0 : Nat → Prop) (μ0 : Mu) (w0 : World) (s : St) (a : Act) (w : World) (Im : Nat → Prop) (μ : Mu) : Prop where
  tm : ∀ t, V.R P Im μ w (s.tm.get t) (a.tmps.getD t undef)
  size : a.tmps.size = s.tm.n
  defers : a.defers = []
  holds : ∀ b blk, s.hp[b]? = some (some blk) → Holds P Im μ w b blk
  inj : ∀ b c blk blk' g, b ≠ c → s.hp[b]? = some (some blk) → s.hp[c]? = some (some blk') → μ b = some g → μ c = some g → False
  dom : ∀ b g, μ b = some g → b < s.hp.length
  dom0 : ∀ b g, μ b = some g → b < hp0.length → μ0 b = some g
  evo : Evo I0 w0 w (fun k => ∃ b ∈ s.wr, μ0 b = some k)
  le : MuLe μ0 μ
  prov : ∀ b, hp0.length ≤ b → ∀ blk, s.hp[b]? = some (some blk) → ∀ g, μ b = some g → w0.heap.size ≤ g ∨ ∃ c ∈ s.wr, c < hp0.length ∧ μ0 c = some g ∧ Alive hp0 c ∧ s.hp[c]? = some none
  len : hp0.length ≤ s.hp.length
  frame : ∀ b, b < hp0.length → b ∉ s.wr → s.hp[b]? = hp0[b]?
  alive : ∀ b, b < hp0.length → Alive s.hp b → Alive hp0 b
  wal : ∀ b ∈ s.wr, b < hp0.length → Alive hp0 b
  isub : Sub I0 Im
  igrow : ∀ k, Im k → I0 k ∨ w0.heap.size ≤ k ∨ ∃ c ∈ s.wr, c < hp0.length ∧ μ0 c = some k ∧ Alive hp0 c ∧ s.hp[c]? = some none
  ilt : ILt P Im w
  ent : Entry P hp0 I0 μ0 w0

section
variable {P : Program} {ops : Array Oper} {sn : Nat → St} {ac wr : Nat → List Nat}

theorem run_alive (hr : Run P ops sn ac wr) {c : Nat} (hc0 : c < (sn 0).hp.length) : ∀ i, i ≤ ops.size → Alive (sn i).hp c → Alive (sn 0).hp c := by
  intro i
  induction i with
  | zero => intro _ h; exact h
  | succ i ih =>
    intro hi ⟨blk, hal⟩
    have ht := (hr.parts i _ (Array.getElem?_eq_getElem (show i < ops.size by omega))).1
    refine ih (by omega) ?_
    by_cases hw : c ∈ wr i
    · exact ht.walive c hw
    · rw [ht.frame c (by have := lens hr (show 0 ≤ i by omega) (by omega); omega) hw] at hal; exact ⟨_, hal⟩
theorem run_dead (hr : Run P ops sn ac wr) {c : Nat} (hc0 : (sn 0).hp[c]? = some none) : ∀ i, i ≤ ops.size → (sn i).hp[c]? = some none := by
  intro i
  induction i with
  | zero => intro _; exact hc0
  | succ i ih =>
    intro hi
    have ht := (hr.parts i _ (Array.getElem?_eq_getElem (show i < ops.size by omega))).1
    have h := ih (by omega)
    rw [ht.frame c (List.getElem?_eq_some_iff.1 h).1 ?_]
    · exact h
    · intro hw
      obtain ⟨blk, hal⟩ := ht.walive c hw
      rw [h] at hal; cases hal
theorem run_frame (hr : Run P ops sn ac wr) {c : Nat} (hc0 : c < (sn 0).hp.length) (hn : ∀ i, i < ops.size → c ∉ wr i) : ∀ i, i ≤ ops.size → (sn i).hp[c]? = (sn 0).hp[c]? := by
  intro i
  induction i with
  | zero => intro _; rfl
  | succ i ih =>
    intro hi
    have ht := (hr.parts i _ (Array.getElem?_eq_getElem (show i < ops.size by omega))).1
    rw [ht.frame c (by have := lens hr (show 0 ≤ i by omega) (by omega); omega) (hn i (by omega)), ih (by omega)]
theorem run_tm (hr : Run P ops sn ac wr) : ∀ i, i ≤ ops.size → (sn i).tm.n = (sn 0).tm.n := by
  intro i
  induction i with
  | zero => intro _; rfl
  | succ i ih =>
    intro hi
    obtain ⟨_, _, v, hv⟩ := hr.parts i _ (Array.getElem?_eq_getElem (show i < ops.size by omega))
    rw [hv, putV_len, ih (by omega)]

theorem hc_all (hr : Run P ops sn ac wr) {L : Nat → Bool} (hL : ∀ i, i < ops.size → L i = true) (b : Nat) : hc ops sn wr L b = (sn ops.size).hp[b]? :=
  lw_full (fun i hi _ => hL i hi) fun _ hi h => touch_back hr (Array.getElem?_eq_getElem hi) h
theorem tmc_all (hr : Run P ops sn ac wr) {L : Nat → Bool} (hL : ∀ i, i < ops.size → L i = true) (t : Nat) : tmc ops sn L t = (sn ops.size).tm.get t :=
  lw_full (fun i hi _ => hL i hi) fun i hi h => by
    obtain ⟨_, _, v, hv⟩ := hr.parts i _ (Array.getElem?_eq_getElem hi)
    have hd : ops[i].dst ≠ some t := by simpa [touchT, hi] using h
    show (sn (i + 1)).tm.get t = _
    rw [hv, putV_ne hd]
theorem lw_none {α : Type} {touch : Nat → Bool} {can : Nat → α} {L : Nat → Bool} (hL : ∀ i, L i = false) : ∀ n, lw touch can L n = can 0
  | 0 => rfl
  | n + 1 => by unfold lw; simp [hL n, lw_none hL n]

theorem ri_start {hp0 : Hp} {I0 Im : Nat → Prop} {μ0 μ : Mu} {w0 w : World} {a : Act} {W : List Nat} {L : Nat → Bool} (hL : ∀ i, L i = false) (C : CI P hp0 I0 μ0 w0 (sn 0) a w Im μ) (w1 : World) (hw : w1 = w ∨ w1 = w.drew) : RI P ops sn wr W Im μ w L a w1 Im μ := by
  have hh : ∀ b, hc ops sn wr L b = (sn 0).hp[b]? := fun b => lw_none hL _
  have ht : ∀ t, tmc ops sn L t = (sn 0).tm.get t := fun t => lw_none hL _
  have hE : Evo Im w w1 (fun k => ∃ b ∈ W, μ b = some k) := by
    rcases hw with rfl | rfl
    · exact .refl _ _
    · exact .drew _ _
  exact ⟨fun t => by rw [ht]; exact (C.tm t).keep hE (.refl _) (.refl _), C.size, C.defers, fun b blk h => by
      rw [hh] at h
      rcases hw with rfl | rfl
      · exact C.holds b blk h
      · exact (C.holds b blk h).keep (.drew w (fun _ => False)) (.refl _) (.refl _) (fun _ _ h => h) (fun g hg => (C.holds b blk h).nimm hg), fun b c b1 b2 g hne h1 h2 => C.inj b c b1 b2 g hne (by rw [← hh]; exact h1) (by rw [← hh]; exact h2),
    fun b g h => .inl h, hE, .refl _, fun b hb blk h => (by rw [hh, List.getElem?_eq_none hb] at h; cases h), .refl _, fun k h => .inl h, C.ilt.step hE (fun _ h => h) fun k h => Nat.lt_of_lt_of_le (C.ilt k h) hE.size⟩

theorem ci_region (hr : Run P ops sn ac wr) {hp0 : Hp} {I0 Im Im' : Nat → Prop} {μ0 μ μ' : Mu} {w0 w w' : World} {a a' : Act} {W : List Nat} {L : Nat → Bool} (hL : ∀ i, i < ops.size → L i = true)
    (hW : ∀ b, b ∈ W ↔ ∃ i, i < ops.size ∧ b ∈ wr i) (hWn : ∀ b, b ∈ (sn ops.size).wr ↔ b ∈ (sn 0).wr ∨ b ∈ W)
    (C : CI P hp0 I0 μ0 w0 (sn 0) a w Im μ) (I : RI P ops sn wr W Im μ w L a' w' Im' μ') : CI P hp0 I0 μ0 w0 (sn ops.size) a' w' Im' μ' := by
  have hh := hc_all hr hL
  have ht := tmc_all hr hL
  have hl := lens hr (Nat.zero_le ops.size) (Nat.le_refl _)
  have hall := fun c hc0 => run_alive hr (c := c) hc0 ops.size (Nat.le_refl _)
  have hWal : ∀ b g, b ∈ W → μ b = some g → Alive (sn 0).hp b := by
    intro b g hb hg
    obtain ⟨i, hi, hbi⟩ := (hW b).1 hb
    have hti := (hr.parts i _ (Array.getElem?_eq_getElem hi)).1
    exact run_alive hr (C.dom b g hg) i (by omega) (hti.walive b hbi)
  have hfr : ∀ b, b < (sn 0).hp.length → b ∉ W → (sn ops.size).hp[b]? = (sn 0).hp[b]? := fun b hb hn => run_frame hr hb (fun i hi h => hn ((hW b).2 ⟨i, hi, h⟩)) ops.size (Nat.le_refl _)
  have holdmu : ∀ b g, b < (sn 0).hp.length → μ' b = some g → μ b = some g := by
    intro b g hb hg
    rcases I.dom b g hg with h | ⟨i, _, hi, h3, _⟩
    · exact h
    · have := lens hr (Nat.zero_le i) (by omega); omega
  refine ⟨fun t => by rw [← ht]; exact I.tm t, by rw [I.size, run_tm hr _ (Nat.le_refl _)], I.defers, fun b blk h => I.holds b blk (by rw [hh]; exact h), fun b c b1 b2 g hne h1 h2 => I.inj b c b1 b2 g hne (by rw [hh]; exact h1) (by rw [hh]; exact h2),
    fun b g h => ?_, fun b g h hb => C.dom0 b g (holdmu b g (by have := C.len; omega) h) hb, ?_, C.le.trans I.le, fun b hb blk h g hg => ?_, Nat.le_trans C.len hl, fun b hb hn => ?_, fun b hb h => C.alive b hb (hall b (by have := C.len; omega) h), fun b hb hb0 => ?_, fun k h => I.isub k (C.isub k h), fun k hk => ?_, I.ilt, C.ent⟩
  · rcases I.dom b g h with h | ⟨i, _, hi, _, h4⟩
    · have := C.dom b g h; omega
    · have := lens hr (show i + 1 ≤ ops.size by omega) (Nat.le_refl _); omega
  · refine (C.evo.mono (fun k hk => by obtain ⟨b, hb, hg⟩ := hk; exact ⟨b, (hWn b).2 (.inl hb), hg⟩)).trans I.evo C.isub fun k hk hx => ?_
    obtain ⟨b, hb, hg⟩ := hx
    rcases Nat.lt_or_ge b hp0.length with hb0 | hb0
    · exact ⟨b, (hWn b).2 (.inr hb), C.dom0 b k hg hb0⟩
    · obtain ⟨blk, hal⟩ := hWal b k hb hg
      rcases C.prov b hb0 blk hal k hg with h | ⟨c, hc, _, hcg, _⟩
      · omega
      · exact ⟨c, (hWn c).2 (.inl hc), hcg⟩
  · have old : ∀ c blk, hp0.length ≤ c → (sn 0).hp[c]? = some (some blk) → μ c = some g → w0.heap.size ≤ g ∨ ∃ c ∈ (sn ops.size).wr, c < hp0.length ∧ μ0 c = some g ∧ Alive hp0 c ∧ (sn ops.size).hp[c]? = some none := by
      intro c blk hc hal hcg
      rcases C.prov c hc blk hal g hcg with h | ⟨d, hd, hd0, hdg, hda, hdn⟩
      · exact .inl h
      · exact .inr ⟨d, (hWn d).2 (.inl hd), hd0, hdg, hda, run_dead hr hdn _ (Nat.le_refl _)⟩
    rcases Nat.lt_or_ge b (sn 0).hp.length with hb0 | hb0
    · obtain ⟨blk', hal⟩ := hall b hb0 ⟨_, h⟩
      exact old b blk' hb hal (holdmu b g hb0 hg)
    · rcases I.prov b hb0 blk (by rw [hh]; exact h) g hg with h | ⟨c, hcW, hcg, hca, hcn⟩
      · exact .inl (Nat.le_trans C.evo.size h)
      · rcases Nat.lt_or_ge c hp0.length with hc0 | hc0
        · exact .inr ⟨c, (hWn c).2 (.inr hcW), hc0, C.dom0 c g hcg hc0, C.alive c hc0 hca, by rw [← hh]; exact hcn⟩
        · obtain ⟨blk', hal⟩ := hca
          exact old c blk' hc0 hal hcg
  · rw [hfr b (by have := C.len; omega) (fun h => hn ((hWn b).2 (.inr h)))]
    exact C.frame b hb (fun h => hn ((hWn b).2 (.inl h)))
  · rcases (hWn b).1 hb with h | h
    · exact C.wal b h hb0
    · obtain ⟨i, hi, hbi⟩ := (hW b).1 h
      have hti := (hr.parts i _ (Array.getElem?_eq_getElem hi)).1
      exact C.alive b hb0 (run_alive hr (by have := C.len; omega) i (by omega) (hti.walive b hbi))
  · rcases I.igrow k hk with h | h | ⟨c, hcW, hcg, hca, hcn⟩
    · rcases C.igrow k h with h | h | ⟨d, hd, hd0, hdg, hda, hdn⟩
      · exact .inl h
      · exact .inr (.inl h)
      · exact .inr (.inr ⟨d, (hWn d).2 (.inl hd), hd0, hdg, hda, run_dead hr hdn _ (Nat.le_refl _)⟩)
    · exact .inr (.inl (Nat.le_trans C.evo.size h))
    · rcases Nat.lt_or_ge c hp0.length with hc0 | hc0
      · exact .inr (.inr ⟨c, (hWn c).2 (.inr hcW), hc0, C.dom0 c k hcg hc0, C.alive c hc0 hca, by rw [← hh]; exact hcn⟩)
      · obtain ⟨blk', hal⟩ := hca
        rcases C.prov c hc0 blk' hal k hcg with h | ⟨d, hd, hd0, hdg, hda, hdn⟩
        · exact .inr (.inl h)
        · exact .inr (.inr ⟨d, (hWn d).2 (.inl hd), hd0, hdg, hda, run_dead hr hdn _ (Nat.le_refl _)⟩)

/-- A region in its own order. -/
theorem region_seq (hn : Named P) (hr : Run P ops sn ac wr) {W : List Nat} {I0 : Nat → Prop} {μ : Mu} {w : World} (hW : ∀ i, i < ops.size → ∀ b ∈ wr i, b ∈ W) (hdom : ∀ b g, μ b = some g → b < (sn 0).hp.length)
    {Q : Exit → Act → World → Prop} (hQ : ∀ L a' w' μ' Im', (∀ i, i < ops.size → L i = true) → RI P ops sn wr W I0 μ w L a' w' Im' μ' → Q .normal a' w') :
    ∀ (m k : Nat), k + m = ops.size → ∀ a w1 μ1 Im1, RI P ops sn wr W I0 μ w (fun i => decide (i < k)) a w1 Im1 μ1 → wpOps P ops Q (List.range' k m) a w1
  | 0, k, hk, a, w1, μ1, Im1, I => by
    simp only [List.range'_zero, wpOps]
    exact hQ _ _ _ _ _ (fun i hi => by simp; omega) I
  | m + 1, k, hk, a, w1, μ1, Im1, I => by
    rw [List.range'_succ, wpOps_cons]
    refine ri_step hn hr hW hdom (Array.getElem?_eq_getElem (show k < ops.size by omega)) (by simp) (fun i oi hi _ hL => by simp at hL; omega) (fun i oi hi _ hL => by simp at hL; omega) I fun a' w' μ' Im' I' => ?_
    have e : addL (fun i => decide (i < k)) k = fun i => decide (i < k + 1) := by
      funext i
      rw [Bool.eq_iff_iff]
      simp [addL]
      omega
    rw [e] at I'
    exact region_seq hn hr hW hdom hQ m (k + 1) (by omega) a' w' μ' Im' I'

/-- May the two change places? -/
structure Free (ops : Array Oper) (sn : Nat → St) (ac wr : Nat → List Nat) (i j : Nat) : Prop where
  apart : ∀ oi oj, ops[i]? = some oi → ops[j]? = some oj → oi.apart ops oj = true
  read : ∀ b ∈ ac j, touchB sn wr b i = false
  write : ∀ b ∈ wr j, b ∉ ac i

/-- i comes ahead of j, by what the text says. -/
inductive Ahead (ops : Array Oper) (i : Nat) : Nat → Prop where
  | one {j : Nat} {o : Oper} {e : Edge} (ho : ops[j]? = some o) (he : e ∈ o.after) (hb : Region.binds .any e = true) (h : e.on = i) : Ahead ops i j
  | more {j : Nat} {o : Oper} {e : Edge} (ho : ops[j]? = some o) (he : e ∈ o.after) (hb : Region.binds .any e = true) (h : Ahead ops i e.on) : Ahead ops i j

def Closed (ops : Array Oper) (L : Nat → Bool) : Prop := ∀ j o e, L j = true → ops[j]? = some o → e ∈ o.after → Region.binds .any e = true → L e.on = true
theorem Ahead.closed {L : Nat → Bool} (hL : Closed ops L) {i j : Nat} (h : Ahead ops i j) (hj : L j = true) : L i = true := by
  induction h with
  | one ho he hb h => rw [← h]; exact hL _ _ _ hj ho he hb
  | more ho he hb _ ih => exact ih (hL _ _ _ hj ho he hb)

def listedL (listed : Array Bool) : Nat → Bool := fun i => listed.getD i false

/-- A region in any order. -/
theorem region_any (hn : Named P) (hr : Run P ops sn ac wr) {W : List Nat} {I0 : Nat → Prop} {μ : Mu} {w : World} (hW : ∀ i, i < ops.size → ∀ b ∈ wr i, b ∈ W) (hdom : ∀ b g, μ b = some g → b < (sn 0).hp.length)
    (hback : ∀ j o e, ops[j]? = some o → e ∈ o.after → Region.binds .any e = true → e.on < j)
    (hfree : ∀ i j, i < j → j < ops.size → Ahead ops i j ∨ Free ops sn ac wr i j)
    {Q : Exit → Act → World → Prop} (hQ : ∀ L a' w' μ' Im', (∀ i, i < ops.size → L i = true) → RI P ops sn wr W I0 μ w L a' w' Im' μ' → Q .normal a' w') :
    ∀ (fuel : Nat) (listed : Array Bool), listed.size = ops.size → listed.toList.countP (· == false) ≤ fuel → Closed ops (listedL listed) → ∀ a w1 μ1 Im1, RI P ops sn wr W I0 μ w (listedL listed) a w1 Im1 μ1 → wpAny P .any ops Q fuel listed a w1 := by
  -- nothing may come up: all has
  have done : ∀ listed : Array Bool, listed.size = ops.size → Region.ready .any ops listed = [] → ∀ i, i < ops.size → listedL listed i = true := by
    intro listed hs hrd i
    induction i using Nat.strongRecOn with
    | _ i ih =>
      intro hi
      cases hl : listedL listed i with
      | true => rfl
      | false =>
        exfalso
        have hm : i ∈ Region.ready .any ops listed := by
          unfold Region.ready
          rw [List.mem_filter]
          refine ⟨by simpa using hi, ?_⟩
          have hli : listed.getD i true = false := by
            simp only [listedL, Array.getD_eq_getD_getElem?] at hl ⊢
            rw [Array.getElem?_eq_getElem (by omega)] at hl ⊢
            simpa using hl
          rw [hli, Array.getElem?_eq_getElem hi]
          simp only [Bool.not_false, Bool.true_and, Option.map_some, Option.getD_some]
          rw [Array.all_eq_true_iff_forall_mem]
          intro e he
          cases hb : Region.binds .any e with
          | false => rfl
          | true =>
            have hlt := hback i _ e (Array.getElem?_eq_getElem hi) he hb
            have := ih e.on hlt (by omega)
            simpa [listedL] using this
        rw [hrd] at hm
        simp at hm
  have step : ∀ (listed : Array Bool), listed.size = ops.size → Closed ops (listedL listed) → ∀ i, i ∈ Region.ready .any ops listed → i < ops.size ∧ listedL listed i = false ∧ (∀ e, e ∈ (ops[i]?).elim #[] (·.after) → Region.binds .any e = true → listedL listed e.on = true) := by
    intro listed hs hcl i hi
    unfold Region.ready at hi
    rw [List.mem_filter] at hi
    obtain ⟨h1, h2⟩ := hi
    have h1 : i < ops.size := by simpa using h1
    rw [Bool.and_eq_true] at h2
    obtain ⟨h2, h3⟩ := h2
    refine ⟨h1, ?_, fun e he hb => ?_⟩
    · simp only [listedL, Array.getD_eq_getD_getElem?] at h2 ⊢
      rw [Array.getElem?_eq_getElem (by omega)] at h2 ⊢
      simpa using h2
    · rw [Array.getElem?_eq_getElem h1] at h3 he
      simp only [Option.map_some, Option.getD_some, Option.elim_some] at h3 he
      have := (Array.all_eq_true_iff_forall_mem.1 h3) e he
      simpa [hb, listedL] using this
  intro fuel
  induction fuel with
  | zero =>
    intro listed hs hf hcl a w1 μ1 Im1 I
    have hall : ∀ i, i < ops.size → listedL listed i = true := by
      intro i hi
      have hz : listed.toList.countP (· == false) = 0 := by omega
      have hm : listed[i]'(by omega) ∈ listed.toList := by simp
      have := List.countP_eq_zero.1 hz _ hm
      simp only [listedL, Array.getD_eq_getD_getElem?]
      rw [Array.getElem?_eq_getElem (by omega)]
      simpa using this
    refine ⟨?_, hQ _ _ _ _ _ hall I⟩
    rw [List.eq_nil_iff_forall_not_mem]
    intro i hi
    obtain ⟨h1, h2, _⟩ := step listed hs hcl i hi
    rw [hall i h1] at h2; cases h2
  | succ fuel ih =>
    intro listed hs hf hcl a w1 μ1 Im1 I
    refine ⟨fun hrd => hQ _ _ _ _ _ (done listed hs hrd) I, fun i hi => ?_⟩
    obtain ⟨h1, h2, h3⟩ := step listed hs hcl i hi
    refine ri_step hn hr hW hdom (Array.getElem?_eq_getElem h1) h2 (fun k ok hk hok hL => ?_) (fun k ok hk hok hL => ?_) I fun a' w' μ' Im' I' => ?_
    · rcases hfree k i hk h1 with h | h
      · exfalso
        cases h with
        | one ho he hb h =>
          have := h3 _ (by rw [ho]; exact he) hb
          rw [h, hL] at this; cases this
        | more ho he hb h =>
          have := h.closed hcl (h3 _ (by rw [ho]; exact he) hb)
          rw [hL] at this; cases this
      · exact ⟨h.apart _ _ hok (Array.getElem?_eq_getElem h1), h.read, h.write⟩
    · have hks : k < ops.size := (Array.getElem?_eq_some_iff.1 hok).1
      rcases hfree i k hk hks with h | h
      · have := h.closed hcl hL
        rw [h2] at this; cases this
      · exact ⟨h.apart _ _ (Array.getElem?_eq_getElem h1) hok, h.read, h.write⟩
    · have e : listedL (listed.setIfInBounds i true) = addL (listedL listed) i := by
        funext k
        simp only [listedL, addL, Array.getD_eq_getD_getElem?, Array.getElem?_setIfInBounds]
        by_cases hik : i = k
        · subst hik; simp [hs, h1]
        · have : ¬ k = i := fun e => hik e.symm
          simp [hik, this]
      refine ih _ (by simp [hs]) ?_ ?_ a' w' μ' Im' (by rw [e]; exact I')
      · rw [Array.toList_setIfInBounds, List.countP_set (h := by simpa [hs] using h1)]
        have h2' : listed.toList[i]'(by simpa [hs] using h1) = false := by
          simp only [listedL, Array.getD_eq_getD_getElem?] at h2
          rw [Array.getElem?_eq_getElem (by omega)] at h2
          simpa using h2
        rw [h2']
        simp only [show (false == false) = true from rfl, show (true == false) = false from rfl, if_true, Bool.false_eq_true, if_false]
        omega
      · rw [e]
        intro k o ed hk ho he hb
        simp only [addL, Bool.or_eq_true, beq_iff_eq] at hk ⊢
        rcases hk with rfl | hk
        · exact .inr (h3 ed (by rw [ho]; exact he) hb)
        · exact .inr (hcl k o ed hk ho he hb)

end
end Go.Proofs.YtjgancippgpdhaaGreatDoor

namespace Go.Proofs.YtjgancippgpdhaaGreatDoor
open Go.RowKit

abbrev Rec := St × List Nat × List Nat

/-- A region's operations, one behind the other. -/
inductive TraceR (P : Program) (ops : Array Oper) : List Oper → St → List Rec → St → Prop where
  | nil (s : St) : TraceR P ops [] s [] s
  | cons {o : Oper} {rest : List Oper} {s s' s2 : St} {acc wr : List Nat} {l : List Rec} (callF : CallF) (hb : Bodied P callF) (hc : CallOK P callF) (h : evStep P callF ops s o = some (s', acc, wr)) (t : TraceR P ops rest s' l s2) : TraceR P ops (o :: rest) s ((s, acc, wr) :: l) s2

def snOf (l : List Rec) (s2 : St) (i : Nat) : St := match l[i]? with
  | some r => r.1
  | none => s2
def acOf (l : List Rec) (i : Nat) : List Nat := match l[i]? with
  | some r => r.2.1
  | none => []
def wrOf (l : List Rec) (i : Nat) : List Nat := match l[i]? with
  | some r => r.2.2
  | none => []

def maskOf (acc : List Nat) : List Edge → Nat
  | [] => 0
  | e :: es => if Region.binds .any e then (2 ^ e.on ||| acc.getD e.on 0) ||| maskOf acc es else maskOf acc es
def befL : List Oper → List Nat → List Nat
  | [], acc => acc
  | o :: os, acc => befL os (acc ++ [maskOf acc o.after.toList])

def freeB (ops : Array Oper) (l : List Rec) (s2 : St) (i j : Nat) : Bool :=
  (match ops[i]?, ops[j]? with
    | some oi, some oj => oi.apart ops oj
    | _, _ => false) &&
  (acOf l j).all (fun b => !touchB (snOf l s2) (wrOf l) b i) && (wrOf l j).all fun b => !(acOf l i).contains b

def drawOK (ops : Array Oper) (l : List Rec) (s2 : St) : Bool :=
  let ms := befL ops.toList []
  (ops.toList.zipIdx.all fun x => x.1.after.toList.all fun e => !Region.binds .any e || decide (e.on < x.2)) &&
  (List.range ops.size).all fun j => (List.range j).all fun i => (ms.getD j 0).testBit i || freeB ops l s2 i j

def evResult (P : Program) (hp : Hp) (tm : Tm) : ResultVar → Option V
  | .tmp t => some (tm.get t)
  | .cell a t => (evLoad P hp t (tm.get a)).map (·.v)
def evResultL (P : Program) (hp : Hp) (tm : Tm) : List ResultVar → Option (List V)
  | [] => some []
  | r :: rs => match evResult P hp tm r, evResultL P hp tm rs with
    | some v, some vs => some (v :: vs)
    | _, _ => none
def oneOf : List V → V
  | [v] => v
  | vs => .tup vs

section
variable {P : Program} {ops : Array Oper}

theorem trace_run : ∀ {os : List Oper} {s : St} {l : List Rec} {s2 : St}, TraceR P ops os s l s2 →
    l.length = os.length ∧ snOf l s2 0 = s ∧ (∀ (i : Nat) (o : Oper), os[i]? = some o → ∃ callF, Bodied P callF ∧ CallOK P callF ∧ evStep P callF ops (snOf l s2 i) o = some (snOf l s2 (i + 1), acOf l i, wrOf l i))
  | _, _, _, _, .nil s => ⟨rfl, rfl, by simp⟩
  | _, _, _, s2, .cons (o := o) (rest := rest) (s := s) (s' := s') (acc := acc) (wr := wr) (l := l') callF hb hc hs ht => by
    obtain ⟨h1, h2, h3⟩ := trace_run ht
    refine ⟨by simp [h1], rfl, fun i o' ho => ?_⟩
    cases i with
    | zero =>
      simp at ho; subst ho
      refine ⟨callF, hb, hc, ?_⟩
      show evStep P callF ops s o = some (snOf ((s, acc, wr) :: l') s2 1, acc, wr)
      rw [hs]
      have : snOf ((s, acc, wr) :: l') s2 1 = snOf l' s2 0 := rfl
      rw [this, h2]
    | succ i =>
      have := h3 i o' (by simpa using ho)
      simpa [snOf, acOf, wrOf] using this

theorem mask_spec {acc : List Nat} {i : Nat} : ∀ {es : List Edge}, (maskOf acc es).testBit i = true → ∃ e ∈ es, Region.binds .any e = true ∧ (e.on = i ∨ (acc.getD e.on 0).testBit i = true)
  | [], h => by simp [maskOf] at h
  | e :: es, h => by
    unfold maskOf at h
    split at h
    · rename_i hb
      rw [Nat.testBit_or, Nat.testBit_or, Bool.or_eq_true, Bool.or_eq_true, Nat.testBit_two_pow] at h
      rcases h with (h | h) | h
      · exact ⟨e, by simp, hb, .inl (by simpa using h)⟩
      · exact ⟨e, by simp, hb, .inr h⟩
      · obtain ⟨e', he, h1, h2⟩ := mask_spec h
        exact ⟨e', by simp [he], h1, h2⟩
    · obtain ⟨e', he, h1, h2⟩ := mask_spec h
      exact ⟨e', by simp [he], h1, h2⟩

theorem bef_spec (ops : Array Oper) : ∀ (os : List Oper) (acc : List Nat), ops.toList = (ops.toList.take acc.length) ++ os → acc.length ≤ ops.size →
    (∀ j i, (acc.getD j 0).testBit i = true → Ahead ops i j) → ∀ j i, ((befL os acc).getD j 0).testBit i = true → Ahead ops i j
  | [], acc, _, _, h => h
  | o :: os, acc, he, hl, h => by
    unfold befL
    have hlt : acc.length < ops.size := by
      have := congrArg List.length he
      simp at this; omega
    have hmin : (ops.toList.take acc.length).length = acc.length := by simp; omega
    have ho : ops[acc.length]? = some o := by
      rw [← Array.getElem?_toList, he, List.getElem?_append_right (by omega), hmin, Nat.sub_self]
      rfl
    refine bef_spec ops os _ ?_ (by simp; omega) fun j i hb => ?_
    · rw [List.length_append, List.length_singleton, List.take_add_one, Array.getElem?_toList, ho]
      conv => lhs; rw [he]
      simp
    · simp only [List.getD_eq_getElem?_getD] at hb
      rw [List.getElem?_append] at hb
      split at hb
      · exact h j i (by simpa [List.getD_eq_getElem?_getD] using hb)
      · rename_i hj
        cases hk : j - acc.length with
        | zero =>
          rw [hk] at hb
          simp at hb
          have hje : j = acc.length := by omega
          obtain ⟨e, hme, hbd, hor⟩ := mask_spec hb
          rw [hje]
          rcases hor with h1 | h1
          · exact .one ho (by simpa using hme) hbd h1
          · exact .more ho (by simpa using hme) hbd (h _ _ h1)
        | succ k => rw [hk] at hb; simp at hb

theorem draw_spec {l : List Rec} {s2 : St} (h : drawOK ops l s2 = true) : (∀ j o e, ops[j]? = some o → e ∈ o.after → Region.binds .any e = true → e.on < j) ∧
    (∀ i j, i < j → j < ops.size → Ahead ops i j ∨ Free ops (snOf l s2) (acOf l) (wrOf l) i j) := by
  unfold drawOK at h
  simp only [Bool.and_eq_true] at h
  obtain ⟨h1, h2⟩ := h
  refine ⟨fun j o e ho he hb => ?_, fun i j hij hj => ?_⟩
  · rw [List.all_eq_true] at h1
    have hm : (o, j) ∈ ops.toList.zipIdx := by
      rw [List.mem_zipIdx_iff_getElem?]
      simpa using ho
    have := h1 _ hm
    rw [List.all_eq_true] at this
    have := this e (by simpa using he)
    simpa [hb] using this
  · rw [List.all_eq_true] at h2
    have h3 := h2 j (by simpa using hj)
    rw [List.all_eq_true] at h3
    have h4 := h3 i (by simpa using hij)
    rw [Bool.or_eq_true] at h4
    rcases h4 with h4 | h4
    · exact .inl (bef_spec ops ops.toList [] (by simp) (by simp) (by simp) j i h4)
    · right
      unfold freeB at h4
      simp only [Bool.and_eq_true, List.all_eq_true] at h4
      obtain ⟨⟨h5, h6⟩, h7⟩ := h4
      refine ⟨fun oi oj hoi hoj => ?_, fun b hb => by simpa using h6 b hb, fun b hb => by simpa using h7 b hb⟩
      rw [hoi, hoj] at h5
      exact h5

theorem trace_key {s s' : St} : ∀ l, TraceR P ops ops.toList s l s' → ∃ (_ : Run P ops (snOf l s') (acOf l) (wrOf l)), snOf l s' 0 = s ∧ snOf l s' ops.size = s' ∧ (∀ b, b ∈ (l.flatMap (·.2.2)) ↔ ∃ i, i < ops.size ∧ b ∈ wrOf l i) ∧ (∀ b, b ∈ s'.wr ↔ b ∈ s.wr ∨ b ∈ (l.flatMap (·.2.2))) := by
  intro l hl
  obtain ⟨h1, h2, h3⟩ := trace_run hl
  have hr : Run P ops (snOf l s') (acOf l) (wrOf l) := ⟨fun i o ho => h3 i o (by simpa using ho)⟩
  have hsz : l.length = ops.size := by simpa using h1
  have hW : ∀ b, b ∈ (l.flatMap (·.2.2)) ↔ ∃ i, i < ops.size ∧ b ∈ wrOf l i := by
    intro b
    rw [List.mem_flatMap]
    constructor
    · rintro ⟨r, hrl, hb⟩
      obtain ⟨i, hi, rfl⟩ := List.getElem_of_mem hrl
      exact ⟨i, by omega, by simp [wrOf, List.getElem?_eq_getElem hi, hb]⟩
    · rintro ⟨i, hi, hb⟩
      have hil : i < l.length := by omega
      exact ⟨l[i], List.getElem_mem hil, by simpa [wrOf, List.getElem?_eq_getElem hil] using hb⟩
  have hend : snOf l s' ops.size = s' := by simp [snOf, hsz]
  refine ⟨hr, h2, hend, hW, fun b => ?_⟩
  have hwr : ∀ i, i ≤ ops.size → (b ∈ (snOf l s' i).wr ↔ b ∈ s.wr ∨ ∃ k, k < i ∧ b ∈ wrOf l k) := by
    intro i
    induction i with
    | zero => intro _; rw [h2]; simp
    | succ i ih =>
      intro hi
      obtain ⟨_, hw, _⟩ := hr.parts i _ (Array.getElem?_eq_getElem (show i < ops.size by omega))
      rw [hw, List.mem_append, ih (by omega)]
      constructor
      · rintro ((h | ⟨k, hk, h⟩) | h)
        · exact .inl h
        · exact .inr ⟨k, by omega, h⟩
        · exact .inr ⟨i, by omega, h⟩
      · rintro (h | ⟨k, hk, h⟩)
        · exact .inl (.inl h)
        · by_cases e : k = i
          · subst e; exact .inr h
          · exact .inl (.inr ⟨k, by omega, h⟩)
  rw [hW]
  have := hwr ops.size (Nat.le_refl _)
  rw [hend] at this
  exact this


/-- What evaluation itself keeps of the blocks that were there. -/
structure SR (hp0 : Hp) (s : St) : Prop where
  len : hp0.length ≤ s.hp.length
  frame : ∀ b, b < hp0.length → b ∉ s.wr → s.hp[b]? = hp0[b]?
  alive : ∀ b, b < hp0.length → Alive s.hp b → Alive hp0 b

theorem region_static {s s' : St} {l : List Rec} (hl : TraceR P ops ops.toList s l s') {hp0 : Hp} (C : SR hp0 s) : SR hp0 s' := by
  obtain ⟨hr, h0, hN, hW, hWn⟩ := trace_key l hl
  have hl := lens hr (Nat.zero_le ops.size) (Nat.le_refl _)
  rw [h0, hN] at hl
  refine ⟨Nat.le_trans C.len hl, fun b hb hn => ?_, fun b hb h => ?_⟩
  · have := run_frame hr (c := b) (by rw [h0]; have := C.len; omega) (fun i hi hbi => hn ((hWn b).2 (.inr ((hW b).2 ⟨i, hi, hbi⟩)))) ops.size (Nat.le_refl _)
    rw [h0, hN] at this
    rw [this]
    exact C.frame b hb fun h => hn ((hWn b).2 (.inl h))
  · have := run_alive hr (c := b) (by rw [h0]; have := C.len; omega) ops.size (Nat.le_refl _) (by rw [hN]; exact h)
    rw [h0] at this
    exact C.alive b hb this

theorem region_sound (hm : P.follows .mixedOrders = true) (hn : Named P) {draw : Bool} {s s' : St} {l : List Rec} (hl : TraceR P ops ops.toList s l s') (hd : draw = true → drawOK ops l s' = true) {hp0 : Hp} {I0 Im : Nat → Prop} {μ0 μ : Mu} {w0 w : World} {a : Act}
    (C : CI P hp0 I0 μ0 w0 s a w Im μ) {id : Nat} {Q : Exit → Act → World → Prop} (hQ : ∀ a' w' μ' Im', CI P hp0 I0 μ0 w0 s' a' w' Im' μ' → Q .normal a' w') : (Code.region id ops draw).wp P Q a w := by
  obtain ⟨hr, h0, hN, hW, hWn⟩ := trace_key l hl
  cases draw
  · refine wp_region ?_
    rw [show List.range ops.size = List.range' 0 ops.size from List.range_eq_range' ..]
    refine region_seq hn hr (W := l.flatMap (·.2.2)) (fun i hi b hb => (hW b).2 ⟨i, hi, hb⟩) (by rw [h0]; exact C.dom) (fun L a' w' μ' Im' hL I => hQ a' w' μ' Im' ?_) ops.size 0 (by omega) a w μ Im (ri_start (fun i => by simp) (by rw [h0]; exact C) w (.inl rfl))
    have := ci_region hr hL hW (by rw [hN, h0]; exact hWn) (by rw [h0]; exact C) I
    rwa [hN] at this
  · obtain ⟨hback, hfree⟩ := draw_spec (hd rfl)
    refine wp_region_any hm ?_
    refine region_any hn hr (W := l.flatMap (·.2.2)) (fun i hi b hb => (hW b).2 ⟨i, hi, hb⟩) (by rw [h0]; exact C.dom) hback hfree (fun L a' w' μ' Im' hL I => hQ a' w' μ' Im' ?_) ops.size _ (by simp) (Nat.le_trans List.countP_le_length (by simp)) ?_ a _ μ Im (ri_start (fun i => ?_) (by rw [h0]; exact C) w.drew (.inr rfl))
    · have := ci_region hr hL hW (by rw [hN, h0]; exact hWn) (by rw [h0]; exact C) I
      rwa [hN] at this
    · intro j o e hj
      simp only [listedL, Array.getD_eq_getD_getElem?, Array.getElem?_replicate] at hj
      split at hj <;> cases hj
    · simp only [listedL, Array.getD_eq_getD_getElem?, Array.getElem?_replicate]
      split <;> rfl

def Ex.toExit : Ex → Exit
  | .normal => .normal
  | .exit id => .exit id
  | .ret => .ret

end
end Go.Proofs.YtjgancippgpdhaaGreatDoor

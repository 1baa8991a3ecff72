/-
  The small evaluator: functions do what the machine does.
-/
import Derived.Test.YtalhlpfjjbbfnaaVn
namespace Go.Proofs.Ytalhlpfjjbbfnaa
open Go.RowKit

section
variable {P : Program} {callF : CallF}

def resSem (tmps : Array Value) : ResultVar → Sem Value
  | .tmp t => pure (tmps.getD t undef)
  | .cell x t => do loadVar t (← asAddr (tmps.getD x undef))

theorem result_sound {hp : Hp} {tm : Tm} {a : Act} {w : World} {μ : Mu} (htm : ∀ t, V.R P μ w (tm.get t) (a.tmps.getD t undef)) (hh : ∀ b blk, hp[b]? = some (some blk) → Holds P μ w b blk)
    (hi : ∀ b c blk blk' g, b ≠ c → hp[b]? = some (some blk) → hp[c]? = some (some blk') → μ b = some g → μ c = some g → False) {r : ResultVar} {v : V} (h : evResult P hp tm r = some v) :
    ∃ val, (resSem a.tmps r).run P w = .ok val w ∧ V.R P μ w v val := by
  unfold resSem
  unfold evResult at h
  split at h
  · cases h; exact ⟨_, rfl, htm _⟩
  · rename_i x t
    obtain ⟨out, ho, rfl⟩ := Option.map_eq_some_iff.1 h
    have hx := htm x
    obtain ⟨h1, h2, h3, val, hr, hR⟩ := load_sound ho hx ⟨fun b _ blk hb => hh b blk hb, fun b _ c _ b1 b2 g hne hb hc => hi b c b1 b2 g hne hb hc, fun b hb hb' => by
      have e : out.hp = hp := by
        unfold evLoad at ho
        split at ho
        case h_2 => cases ho
        split at ho
        case h_2 => cases ho
        split at ho
        · split at ho <;> cases ho; rfl
        · split at ho <;> cases ho; rfl
      rw [e] at hb'; omega⟩
    refine ⟨val, ?_, hR⟩
    unfold evLoad at ho
    split at ho
    case h_2 => cases ho
    case h_1 b off hxe =>
    rw [hxe] at hx
    simp only [V.R] at hx
    obtain ⟨g, _, hg⟩ := hx
    simp only [hg, Instr.loadAt, Instr.sureAddr, Sem.run_bind, Sem.run_pure, Result.andThen_ok] at hr
    simp only [hg, asAddr, Sem.run_bind, Sem.run_pure, Result.andThen_ok]
    exact hr

theorem resultL_sound {hp : Hp} {tm : Tm} {a : Act} {w : World} {μ : Mu} (htm : ∀ t, V.R P μ w (tm.get t) (a.tmps.getD t undef)) (hh : ∀ b blk, hp[b]? = some (some blk) → Holds P μ w b blk)
    (hi : ∀ b c blk blk' g, b ≠ c → hp[b]? = some (some blk) → hp[c]? = some (some blk') → μ b = some g → μ c = some g → False) : ∀ {rs : List ResultVar} {vs : List V}, evResultL P hp tm rs = some vs →
    ∃ vals : List Value, (rs.mapM (resSem a.tmps)).run P w = .ok vals w ∧ V.RL P μ w vs vals
  | [], vs, h => by cases h; exact ⟨[], rfl, by simp [V.RL]⟩
  | r :: rs, vs, h => by
    unfold evResultL at h
    split at h
    case h_2 => cases h
    case h_1 v vs' h1 h2 =>
    cases h
    obtain ⟨val, hr, hR⟩ := result_sound htm hh hi h1
    obtain ⟨vals, hrs, hRs⟩ := resultL_sound htm hh hi h2
    refine ⟨val :: vals, ?_, by simp only [V.RL]; exact ⟨_, _, rfl, hR, hRs⟩⟩
    rw [List.mapM_cons, Sem.run_bind, hr]
    simp only [Result.andThen_ok, Sem.run_bind, hrs, Sem.run_pure]

theorem results_sound {fn : Func} {hp : Hp} {tm : Tm} {a : Act} {w : World} {μ : Mu} (htm : ∀ t, V.R P μ w (tm.get t) (a.tmps.getD t undef)) (hh : ∀ b blk, hp[b]? = some (some blk) → Holds P μ w b blk)
    (hi : ∀ b c blk blk' g, b ≠ c → hp[b]? = some (some blk) → hp[c]? = some (some blk') → μ b = some g → μ c = some g → False) {vs : List V} (h : evResultL P hp tm fn.results.toList = some vs) :
    ∃ val, (results fn a.tmps).run P w = .ok val w ∧ V.R P μ w (oneOf vs) val := by
  obtain ⟨vals, hr, hR⟩ := resultL_sound htm hh hi h
  have hl := hR.length
  have hrun : (results fn a.tmps).run P w = .ok (if h : vals.toArray.size = 1 then vals.toArray[0] else .tuple vals.toArray) w := by
    have e : results fn a.tmps = (do let vs ← fn.results.mapM (resSem a.tmps); pure (if h : vs.size = 1 then vs[0] else .tuple vs)) := by
      unfold results
      first | rfl | (congr 1; congr 1; funext r; cases r <;> rfl) | (congr 1)
    rw [e, Sem.run_bind, Array.mapM_eq_mapM_toList]
    simp only [map_eq_pure_bind, Sem.run_bind, Sem.run_pure]
    rw [hr]
    simp only [Result.andThen_ok]
  refine ⟨_, hrun, ?_⟩
  match vs, vals, hR, hl with
  | [], [], _, _ => simp [oneOf, V.R, V.RL]
  | [v], [u], hR, _ =>
    simp only [V.RL] at hR
    obtain ⟨u', us, e, h1, _⟩ := hR
    cases e
    simpa [oneOf] using h1
  | v1 :: v2 :: vs, u1 :: u2 :: us, hR, _ => simp only [oneOf]; simp; simp only [V.R]; exact ⟨_, rfl, by simpa using hR⟩

theorem reach_prefix (hp : Hp) : ∀ (n : Nat) (todo seen : List Nat), ∃ t, reach hp n todo seen = seen ++ t ∧ (seen.Nodup → (seen ++ t).Nodup) ∧ ∀ b ∈ t, Alive hp b
  | 0, _, seen => ⟨[], by simp [reach], by simp, by simp⟩
  | n + 1, [], seen => ⟨[], by simp [reach], by simp, by simp⟩
  | n + 1, b :: t, seen => by
    unfold reach
    split
    · exact reach_prefix hp n t seen
    · rename_i hc
      have hb : b ∉ seen := by simpa using hc
      split
      · rename_i blk hblk
        obtain ⟨t', h1, h2, h3⟩ := reach_prefix hp n (t ++ V.refsL blk.1) (seen ++ [b])
        refine ⟨b :: t', by rw [h1]; simp, fun hn => ?_, fun c hcm => ?_⟩
        · have := h2 (by
            rw [List.nodup_append]
            refine ⟨hn, by simp, fun a ha c hc e => ?_⟩
            simp at hc; subst hc; subst e; exact hb ha)
          simpa using this
        · rcases List.mem_cons.1 hcm with rfl | h
          · exact ⟨blk, hblk⟩
          · exact h3 c h
      · exact reach_prefix hp n t seen

theorem gc_sound {hp0 : Hp} {μ0 μ : Mu} {w0 w : World} {s : St} {a : Act} {v : V} {val : Value} (C : CI P hp0 μ0 w0 s a w μ) (hdom : ∀ b g, μ0 b = some g → b < hp0.length)
    (pre : ∀ b blk, hp0[b]? = some (some blk) → Holds P μ0 w0 b blk) (pinj : ∀ b c blk blk' g, b ≠ c → hp0[b]? = some (some blk) → hp0[c]? = some (some blk') → μ0 b = some g → μ0 c = some g → False) (hv : V.R P μ w v val) :
    ∃ μr, V.R P μr w (gc hp0.length v s.hp s.wr).v val ∧ Good P μ0 μr w0 w hp0 (gc hp0.length v s.hp s.wr).hp (List.range hp0.length) (gc hp0.length v s.hp s.wr).wr := by
  have hwr : ∀ b, b ∈ (s.wr.filter fun b => decide (b < hp0.length)) ↔ b ∈ s.wr ∧ b < hp0.length := by intro b; simp
  have hevo : Evo w0 w (fun k => ∃ b ∈ (s.wr.filter fun b => decide (b < hp0.length)), μ0 b = some k) := C.evo.mono fun k hk => by
    obtain ⟨b, hb, hg⟩ := hk
    exact ⟨b, (hwr b).2 ⟨hb, hdom b k hg⟩, hg⟩
  unfold gc
  split
  · rename_i hle
    have hlen : s.hp.length = hp0.length := by have := C.len; omega
    refine ⟨μ, hv, ⟨hevo, C.le, fun b g hg => .inl (C.dom0 b g hg (by have := C.dom b g hg; omega)), fun b _ blk h => C.holds b blk h, fun b hb blk h => ?_, fun b c b1 b2 g hne _ _ h1 h2 => C.inj b c b1 b2 g hne h1 h2⟩⟩
    have := at_lt (hp := s.hp) h; omega
  · rename_i hgt
    simp only
    generalize hids : reach s.hp 100000 ((s.hp.take hp0.length).flatMap (fun x => match x with | some blk => V.refsL blk.1 | none => []) ++ V.refs v) (List.range hp0.length) = ids
    obtain ⟨t, ht, hnd, hal⟩ := reach_prefix s.hp 100000 ((s.hp.take hp0.length).flatMap (fun x => match x with | some blk => V.refsL blk.1 | none => []) ++ V.refs v) (List.range hp0.length)
    rw [hids] at ht
    have hnd' : ids.Nodup := by rw [ht]; exact hnd List.nodup_range
    have hlow : ∀ j, j < hp0.length → ids[j]? = some j := by
      intro j hj
      rw [ht, List.getElem?_append_left (by simpa using hj), List.getElem?_range hj]
    have hhigh : ∀ j b, hp0.length ≤ j → ids[j]? = some b → hp0.length ≤ b := by
      intro j b hj hb
      rcases Nat.lt_or_ge b hp0.length with h | h
      · have h1 := pos_of hnd' (hlow b h)
        rw [pos_of hnd' hb] at h1
        cases h1; omega
      · exact h
    let μr : Mu := fun j => match ids[j]? with
      | some b => μ b
      | none => none
    have hμr : ∀ j b, ids[j]? = some b → μr j = μ b := by intro j b h; simp [μr, h]
    have hρ : ∀ b b' g, pos ids b = some b' → μ b = some g → μr b' = some g := by
      intro b b' g hb hg; rw [hμr b' b (pos_spec hb)]; exact hg
    have hle : MuLe μ0 μr := by
      intro b g hg
      rw [hμr b b (hlow b (hdom b g hg))]
      exact C.le b g hg
    have hat : ∀ (j : Nat) (blk : Blk), (ids.map fun b => if (decide (b < hp0.length) && !s.wr.contains b) = true then s.hp.getD b none else renB (pos ids) (s.hp.getD b none))[j]? = some (some blk) →
        ∃ b, ids[j]? = some b ∧ ((b < hp0.length ∧ b ∉ s.wr ∧ s.hp[b]? = some (some blk)) ∨ ∃ blk0, s.hp[b]? = some (some blk0) ∧ blk = (V.renL (pos ids) blk0.1, blk0.2)) := by
      intro j blk h
      rw [List.getElem?_map] at h
      obtain ⟨b, hb, h⟩ := Option.map_eq_some_iff.1 h
      refine ⟨b, hb, ?_⟩
      have hget : ∀ x : Blk, s.hp.getD b none = some x → s.hp[b]? = some (some x) := by
        intro x hx
        rw [List.getD_eq_getElem?_getD] at hx
        cases hq : s.hp[b]? with
        | none => rw [hq] at hx; cases hx
        | some y => rw [hq] at hx; simp at hx; rw [hx]
      split at h
      · rename_i hc
        simp only [Bool.and_eq_true, decide_eq_true_eq, Bool.not_eq_true'] at hc
        exact .inl ⟨hc.1, by simpa using hc.2, hget _ h⟩
      · obtain ⟨blk0, h0, rfl⟩ := renB_some h
        exact .inr ⟨blk0, hget _ h0, rfl⟩
    have hat2 : ∀ (j : Nat) (blk : Blk), (ids.map fun b => if (decide (b < hp0.length) && !s.wr.contains b) = true then s.hp.getD b none else renB (pos ids) (s.hp.getD b none))[j]? = some (some blk) →
        ∃ (b : Nat) (blk0 : Blk), ids[j]? = some b ∧ s.hp[b]? = some (some blk0) := by
      intro j blk h
      obtain ⟨b, hb, h⟩ := hat j blk h
      rcases h with ⟨_, _, h⟩ | ⟨blk0, h, _⟩
      · exact ⟨b, _, hb, h⟩
      · exact ⟨b, _, hb, h⟩
    refine ⟨μr, ren_sound hρ _ _ hv, ⟨hevo, hle, fun j g hg => ?_, fun j _ blk h => ?_, fun j hj blk h g hg => ?_, fun j k b1 b2 g hne _ _ h1 h2 g1 g2 => ?_⟩⟩
    · rcases Nat.lt_or_ge j hp0.length with h | h
      · rw [hμr j j (hlow j h)] at hg
        exact .inl (C.dom0 j g hg h)
      · right
        refine ⟨h, ?_⟩
        cases hq : ids[j]? with
        | none => simp [μr, hq] at hg
        | some b => simpa using (List.getElem?_eq_some_iff.1 hq).1
    · obtain ⟨b, hb, h⟩ := hat j blk h
      rcases h with ⟨hbl, hnw, h⟩ | ⟨blk0, h0, rfl⟩
      · -- a block that was not written
        have hj : j = b := by
          have h1 := pos_of hnd' (hlow b hbl)
          rw [pos_of hnd' hb] at h1
          cases h1; rfl
        subst hj
        have h0 : hp0[j]? = some (some blk) := by rw [← C.frame j hbl hnw]; exact h
        refine (pre j blk h0).keep C.evo hle fun g hg hx => ?_
        obtain ⟨c, hcw, hcg⟩ := hx
        have hcl := hdom c g hcg
        obtain ⟨blk', hca⟩ := C.wal c hcw hcl
        exact pinj j c _ _ g (by rintro rfl; exact hnw hcw) h0 hca hg hcg
      · exact (C.holds b blk0 h0).ren hρ fun g hg => by rw [hμr j b hb]; exact hg
    · obtain ⟨b, blk0, hb, h0⟩ := hat2 j blk h
      rw [hμr j b hb] at hg
      rcases C.prov b (hhigh j b hj hb) blk0 h0 g hg with h | ⟨c, hcw, hcl, hcg, hca, hcn⟩
      · exact .inl h
      · right
        refine ⟨c, (hwr c).2 ⟨hcw, hcl⟩, hcg, hca, ?_⟩
        rw [List.getElem?_map, hlow c hcl]
        simp only [Option.map_some, List.getD_eq_getElem?_getD, hcn, Option.getD_some, renB, Option.map_none]
        split <;> rfl
    · obtain ⟨b, blk0, hb, h0⟩ := hat2 j b1 h1
      obtain ⟨c, blk1, hc, h1⟩ := hat2 k b2 h2
      rw [hμr j b hb] at g1
      rw [hμr k c hc] at g2
      refine C.inj b c _ _ g (fun e => hne ?_) h0 h1 g1 g2
      subst e
      have h3 := pos_of hnd' hb
      rw [pos_of hnd' hc] at h3
      cases h3; rfl

theorem gc_tidy {hp0 : Hp} {s : St} {v : V} (C : SR hp0 s) : FnTidy hp0 (gc hp0.length v s.hp s.wr) := by
  unfold gc
  split
  · rename_i hle
    exact ⟨C.len, fun b hb hn => C.frame b hb (fun h => hn (by simp [h, hb])), fun b hb => by simp at hb; exact hb.2, C.alive⟩
  · simp only
    generalize hids : reach s.hp 100000 ((s.hp.take hp0.length).flatMap (fun x => match x with | some blk => V.refsL blk.1 | none => []) ++ V.refs v) (List.range hp0.length) = ids
    obtain ⟨t, ht, hnd, hal⟩ := reach_prefix s.hp 100000 ((s.hp.take hp0.length).flatMap (fun x => match x with | some blk => V.refsL blk.1 | none => []) ++ V.refs v) (List.range hp0.length)
    rw [hids] at ht
    have hlow : ∀ j, j < hp0.length → ids[j]? = some j := by
      intro j hj
      rw [ht, List.getElem?_append_left (by simpa using hj), List.getElem?_range hj]
    have hget : ∀ b, b < hp0.length → s.hp[b]? = some (s.hp.getD b none) := by
      intro b hb
      have : b < s.hp.length := by have := C.len; omega
      rw [List.getD_eq_getElem?_getD, List.getElem?_eq_getElem this]; rfl
    refine ⟨by rw [ht]; simp, fun b hb hn => ?_, fun b hb => by simp at hb; exact hb.2, fun b hb h => ?_⟩
    · have hnw : b ∉ s.wr := fun h => hn (by simp [h, hb])
      rw [List.getElem?_map, hlow b hb]
      simp only [Option.map_some]
      rw [if_pos (by simp [hb, hnw]), ← hget b hb]
      exact C.frame b hb hnw
    · obtain ⟨blk, h⟩ := h
      rw [List.getElem?_map, hlow b hb] at h
      simp only [Option.map_some, Option.some.injEq] at h
      refine C.alive b hb ?_
      split at h
      · exact ⟨blk, by rw [hget b hb, h]⟩
      · obtain ⟨blk0, h0, _⟩ := renB_some h
        exact ⟨blk0, by rw [hget b hb, h0]⟩

theorem fn_sound (hm : P.follows .mixedOrders = true) (hn : Named P) {ext : CallF} (hext : CallOK P ext) (hbext : Bodied P ext) (lf : Nat) : ∀ n, CallOK P (evFn P ext lf n) ∧ Bodied P (evFn P ext lf n)
  | 0 => ⟨fun f vs hp r h => (by cases h), fun f vs hp r h => (by cases h)⟩
  | n + 1 => by
    obtain ⟨ih1, ih2⟩ := fn_sound hm hn hext hbext lf n
    have key : ∀ f vs hp r, evFn P ext lf (n + 1) f vs hp = some r → FnOK P f vs hp r ∧ ∃ fn, P.funcs[f]? = some fn ∧ fn.body.isSome = true := by
      intro f vs hp r h
      unfold evFn at h
      split at h
      · rename_i r' he
        cases h
        exact ⟨hext _ _ _ _ he, hbext _ _ _ _ he⟩
      · split at h
        case h_2 => cases h
        case h_1 fn hfn =>
        split at h
        case h_2 => cases h
        case h_1 c hc =>
        have main : ∀ (ex : Ex) (s : St) (v : List V), evCode P (evFn P ext lf n) lf c ⟨Tm.start (vs.length + (fn.ntmps - vs.length)) vs, hp, []⟩ = some (ex, s) → ex = .normal ∨ ex = .ret → evResultL P s.hp s.tm fn.results.toList = some v → FnOK P f vs hp (gc hp.length (oneOf v) s.hp s.wr) := by
          intro ex s v hev hex hres
          have hst : SR hp s := code_static ih1 c hev ⟨Nat.le_refl _, fun _ _ _ => rfl, fun _ _ h => h⟩
          refine ⟨gc_tidy hst, fun w μ vals hvals pre hdom => ?_⟩
          have hh : ∀ b blk, hp[b]? = some (some blk) → Holds P μ w b blk := fun b blk hb => pre.holds b (by simpa using at_lt hb) blk hb
          have hinj : ∀ b c blk blk' g, b ≠ c → hp[b]? = some (some blk) → hp[c]? = some (some blk') → μ b = some g → μ c = some g → False := fun b c b1 b2 g hne hb hc => pre.inj b (by simpa using at_lt hb) c (by simpa using at_lt hc) b1 b2 g hne hb hc
          have hvl := hvals.length
          simp at hvl
          have C0 : CI P hp μ w ⟨Tm.start (vs.length + (fn.ntmps - vs.length)) vs, hp, []⟩ { tmps := vals ++ Array.replicate (fn.ntmps - vals.size) undef, defers := [] } w μ := by
            refine ⟨fun t => ?_, by simp [hvl, Tm.start, Tm.fill_n], rfl, hh, hinj, hdom, fun b g hg _ => hg, .refl _ _, .refl _, fun b hb blk hblk => ?_, Nat.le_refl _, fun _ _ _ => rfl, fun _ _ h => h, by simp⟩
            · rcases Tm.start_get (vs.length + (fn.ntmps - vs.length)) vs t with e | e
              · show V.R P μ w ((Tm.start (vs.length + (fn.ntmps - vs.length)) vs).get t) _
                rw [e]; simp [V.R]
              · have ht : t < vs.length := (List.getElem?_eq_some_iff.1 e).1
                obtain ⟨u, hu, hR⟩ := hvals.get e
                rw [Array.getElem?_toList] at hu
                rw [Array.getD_eq_getD_getElem?, Array.getElem?_append, if_pos (by omega), hu]
                exact hR
            · have := at_lt (hp := hp) hblk; omega
          refine calls_of_wp hfn hc ?_
          refine code_sound hm hn ih2 ih1 c hev C0 fun a' w' μ' C => ?_
          obtain ⟨val, hr, hR⟩ := results_sound (fn := fn) C.tm C.holds C.inj hres
          obtain ⟨μr, hR', hG⟩ := gc_sound C hdom hh hinj hR
          rcases hex with rfl | rfl
          · exact ⟨C.defers, val, hr, val, μr, rfl, hR', hG⟩
          · exact ⟨C.defers, val, hr, val, μr, rfl, hR', hG⟩
        refine ⟨?_, fn, hfn, by rw [hc]; rfl⟩
        split at h
        · rename_i s hs
          split at h
          · rename_i v hv; cases h; exact main _ s v hs (.inl rfl) hv
          · cases h
        · rename_i s hs
          split at h
          · rename_i v hv; cases h; exact main _ s v hs (.inr rfl) hv
          · cases h
        · cases h
    exact ⟨fun f vs hp r h => (key f vs hp r h).1, fun f vs hp r h => (key f vs hp r h).2⟩

end
end Go.Proofs.Ytalhlpfjjbbfnaa

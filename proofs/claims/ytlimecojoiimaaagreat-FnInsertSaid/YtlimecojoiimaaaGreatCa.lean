/-
  The evaluator of closed calls: deep, by fuel.
-/
import Derived.Test.YtlimecojoiimaaaGreatUu
namespace Go.Proofs.YtlimecojoiimaaaGreat
open Go.RowKit

section
variable {β : Type}

/-- The blocks are reckoned, then handed on. -/
def forceVs (l : List V) (k : List V → β) : β :=
  match l with
  | [] => k []
  | x :: xs => forceV x fun y => forceVs xs fun ys => k (y :: ys)
theorem forceVs_eq : ∀ (l : List V) (k : List V → β), forceVs l k = k l
  | [], _ => rfl
  | x :: xs, k => by unfold forceVs; rw [forceV_eq, forceVs_eq xs]
def forceH (hp : Hp) (k : Hp → β) : β :=
  match hp with
  | [] => k []
  | none :: t => forceH t fun t => k (none :: t)
  | some (cs, ty) :: t => forceVs cs fun cs => forceH t fun t => k (some (cs, ty) :: t)
theorem forceH_eq : ∀ (hp : Hp) (k : Hp → β), forceH hp k = k hp
  | [], _ => rfl
  | none :: t, k => by unfold forceH; rw [forceH_eq t]
  | some (cs, ty) :: t, k => by unfold forceH; rw [forceVs_eq, forceH_eq t]

/-- Can an operation change the blocks? -/
def chg : Op → Bool
  | .alloc _ => true
  | .box _ _ => true
  | .buildSlice _ _ _ => true
  | .makeSlice _ _ _ => true
  | .store _ _ _ => true
  | .call _ => true
  | .convert _ _ _ => true
  | _ => false
def forceO (o : Op) (hp : Hp) (k : Hp → β) : β := match chg o with
  | true => forceH hp k
  | false => k hp
theorem forceO_eq (o : Op) (hp : Hp) (k : Hp → β) : forceO o hp k = k hp := by
  unfold forceO; split
  · exact forceH_eq _ _
  · rfl

def traceC (P : Program) (callF : CallF) (ops : Array Oper) : List Oper → St → List Rec → (List Rec → St → Option β) → Option β
  | [], s, acc, k => k acc s
  | o :: rest, s, acc, k => match wantedV ops s.tm o with
    | some true => match evOp P callF (evalV s.tm) s.hp o.op with
      | some out => forceV out.v fun v => putK s.tm o.dst v fun tm => forceO o.op out.hp fun hp => traceC P callF ops rest ⟨tm, hp, forceW out.wr s.wr⟩ ((s, out.acc, out.wr) :: acc) k
      | none => none
    | some false => putK s.tm o.dst (.lit undef) fun tm => traceC P callF ops rest ⟨tm, s.hp, s.wr⟩ ((s, [], []) :: acc) k
    | none => none

def iterC (step : St → (Ex → St → Option β) → Option β) (k : Ex → St → Option β) : Nat → St → Option β
  | 0, _ => none
  | n + 1, s => step s fun ex s' => match ex with
    | .normal => iterC step k n s'
    | .exit i => k (.exit i) s'
    | .ret => k .ret s'

def codeC (P : Program) (callF : CallF) (n : Nat) : Code → St → (Ex → St → Option β) → Option β
  | .skip, s, k => k .normal s
  | .region _ ops draw, s, k => traceC P callF ops ops.toList s [] fun l s2 => match draw with
    | false => k .normal s2
    | true => match drawOK ops l.reverse s2 with
      | true => k .normal s2
      | false => none
  | .seq x y, s, k => codeC P callF n x s fun ex s' => match ex with
    | .normal => codeC P callF n y s' k
    | .exit i => k (.exit i) s'
    | .ret => k .ret s'
  | .cond c x y, s, k => match evalV s.tm c with
    | .bool true => codeC P callF n x s k
    | .bool false => codeC P callF n y s k
    | _ => none
  | .block id body, s, k => codeC P callF n body s fun ex s' => k (outEx id ex) s'
  | .loop body, s, k => iterC (codeC P callF n body) k n s
  | .exit id, s, k => k (.exit id) s
  | .ret, s, k => k .ret s
  | _, _, _ => none
end

/-- Behind a call: these blocks keep their names; what is known of room stays. -/
def gcC (P : Program) (m : Nat) (ids : List Nat) (v : V) (s : St) : Ret := ⟨frz P s.hp ids m 100 v, (normSt P m [] ids s).hp, (normSt P m [] ids s).wr⟩
/-- What is reached from the results and from what came in keeps its name; frozen: nothing does. -/
def idsC (m : Nat) (frozen : Bool) (v : List V) (hp : Hp) : List Nat := match frozen with
  | true => List.range m
  | false => reach hp 100000 (V.refsL v ++ (hp.take m).flatMap fun (x : Option Blk) => match x with | some blk => V.refsL blk.1 | none => []) (List.range m)
def fnC (P : Program) (callF : CallF) (n : Nat) (frozen : FuncId → Bool) : CallF := fun f vs hp =>
  match P.funcs[f]? with
  | some fn => match fn.body with
    | some c => codeC P callF n c ⟨Tm.start (vs.length + (fn.ntmps - vs.length)) vs, hp, []⟩ fun ex s => match ex with
      | .exit _ => none
      | _ => match evResultL P s.hp s.tm fn.results.toList with
        | some v => match permOK hp.length (idsC hp.length (frozen f) v s.hp) with
          | true => match gcC P hp.length (idsC hp.length (frozen f) v s.hp) (oneOf v) s with
            | ⟨v, h, w⟩ => forceV v fun v => forceH h fun h => some ⟨v, h, w⟩
          | false => none
        | none => none
    | none => none
  | none => none
/-- Deep; what 'ext' tells of a call is taken from there. -/
def deepC (P : Program) (ext : CallF) (n : Nat) (frozen : FuncId → Bool) : Nat → CallF
  | 0 => fun _ _ _ => none
  | d + 1 => fun f vs hp => match ext f vs hp with
    | some r => some r
    | none => fnC P (deepC P ext n frozen d) n frozen f vs hp

section
variable {P : Program} {callF : CallF} {β : Type}

theorem traceC_ok (hb : Bodied P callF) (hc : CallOK P callF) {ops : Array Oper} : ∀ {os : List Oper} {s : St} {acc : List Rec} {k : List Rec → St → Option β} {r : β}, traceC P callF ops os s acc k = some r →
    ∃ l s2, TraceR P ops os s l s2 ∧ k (l.reverse ++ acc) s2 = some r
  | [], s, acc, k, r, h => ⟨[], s, .nil s, by simpa [traceC] using h⟩
  | o :: rest, s, acc, k, r, h => by
    unfold traceC at h
    split at h
    · rename_i hw
      split at h
      · rename_i out ho
        simp only [forceV_eq, putK_eq, forceO_eq, forceW_eq] at h
        obtain ⟨l, s2, h1, h2⟩ := traceC_ok hb hc h
        refine ⟨_, s2, .cons callF hb hc (by simp only [evStep, hw, ho, forceV_eq, putK_eq, forceW_eq]; rfl) h1, ?_⟩
        simpa using h2
      · cases h
    · rename_i hw
      simp only [putK_eq] at h
      obtain ⟨l, s2, h1, h2⟩ := traceC_ok hb hc h
      refine ⟨_, s2, .cons callF hb hc (by simp only [evStep, hw, putK_eq]; rfl) h1, ?_⟩
      simpa using h2
    · cases h

theorem iterC_ok {m : Nat} {body : Code} {step : St → (Ex → St → Option β) → Option β} (hs : ∀ s k r, step s k = some r → ∃ ex s', SoundC P m body s ex s' ∧ k ex s' = some r) {k : Ex → St → Option β} {r : β} :
    ∀ (n : Nat) (s : St), iterC step k n s = some r → ∃ ex s', LoopTo P m body s ex s' ∧ k ex s' = some r
  | 0, s, h => by cases h
  | n + 1, s, h => by
    unfold iterC at h
    obtain ⟨ex, s', h1, h2⟩ := hs _ _ _ h
    cases ex with
    | normal =>
      obtain ⟨ex, s2, h3, h4⟩ := iterC_ok hs n s' h2
      exact ⟨ex, s2, .step h1 h3, h4⟩
    | exit i => exact ⟨_, _, .done h1 (by simp), h2⟩
    | ret => exact ⟨_, _, .done h1 (by simp), h2⟩

theorem codeC_ok (hm : P.follows .mixedOrders = true) (hn : Named P) (hb : Bodied P callF) (hc : CallOK P callF) {m n : Nat} : ∀ {c : Code} {s : St} {k : Ex → St → Option β} {r : β}, codeC P callF n c s k = some r → ∃ ex s', SoundC P m c s ex s' ∧ k ex s' = some r
  | .skip, s, k, r, h => ⟨.normal, s, .skip, h⟩
  | .region id ops draw, s, k, r, h => by
    unfold codeC at h
    obtain ⟨l, s2, h1, h2⟩ := traceC_ok hb hc h
    cases draw with
    | false => exact ⟨_, _, .region hm hn h1 (fun h => by cases h), h2⟩
    | true =>
      simp only [List.append_nil, List.reverse_reverse] at h2
      split at h2
      · rename_i hd; exact ⟨_, _, .region hm hn h1 (fun _ => hd), h2⟩
      · cases h2
  | .seq x y, s, k, r, h => by
    unfold codeC at h
    obtain ⟨ex, s1, h1, h2⟩ := codeC_ok hm hn hb hc (m := m) h
    cases ex with
    | normal =>
      obtain ⟨ex, s2, h3, h4⟩ := codeC_ok hm hn hb hc (m := m) h2
      exact ⟨_, _, .seq h1 h3, h4⟩
    | exit i => exact ⟨_, _, .seq_out h1 (by simp), h2⟩
    | ret => exact ⟨_, _, .seq_out h1 (by simp), h2⟩
  | .cond c x y, s, k, r, h => by
    unfold codeC at h
    split at h
    · rename_i hv
      obtain ⟨ex, s1, h1, h2⟩ := codeC_ok hm hn hb hc (m := m) h
      exact ⟨_, _, .cond (b := true) hv h1, h2⟩
    · rename_i hv
      obtain ⟨ex, s1, h1, h2⟩ := codeC_ok hm hn hb hc (m := m) h
      exact ⟨_, _, .cond (b := false) hv h1, h2⟩
    · cases h
  | .block id body, s, k, r, h => by
    unfold codeC at h
    obtain ⟨ex, s1, h1, h2⟩ := codeC_ok hm hn hb hc (m := m) h
    exact ⟨_, _, .block h1, h2⟩
  | .loop body, s, k, r, h => by
    unfold codeC at h
    obtain ⟨ex, s', h1, h2⟩ := iterC_ok (m := m) (body := body) (fun s k r h => codeC_ok hm hn hb hc (m := m) h) n s h
    exact ⟨_, _, .loopTo h1, h2⟩
  | .exit id, s, k, r, h => ⟨_, _, .exit, h⟩
  | .ret, s, k, r, h => ⟨_, _, .ret, h⟩
  | .rangeFunc _ _ _ _, _, _, _, h => by cases h
  | .scope _, _, _, _, h => by cases h
  | .label _, _, _, _, h => by cases h
  | .goto _, _, _, _, h => by cases h
  | .refuse _, _, _, _, h => by cases h

theorem gcC_tidy {hp0 : Hp} {s : St} {v : V} {ids : List Nat} (hp : permOK hp0.length ids = true) (C : SR hp0 s) : FnTidy hp0 (gcC P hp0.length ids v s) := by
  have C' := (norm_weakV (P := P) (keep := []) hp).st hp0 rfl C
  exact ⟨C'.len, fun b hb hn => C'.frame b hb hn, fun b hb => by simp only [gcC, normSt, List.mem_eraseDups, List.mem_filter, decide_eq_true_eq] at hb; exact hb.2, C'.alive⟩
theorem gcC_sound {hp0 : Hp} {I0 Im : Nat → Prop} {μ0 μ : Mu} {w0 w : World} {s : St} {a : Act} {v : V} {val : Value} {ids : List Nat} (hp : permOK hp0.length ids = true) (C : CI P hp0 I0 μ0 w0 s a w Im μ) (hdom : ∀ b g, μ0 b = some g → b < hp0.length) (hv : V.R P Im μ w v val) :
    ∃ μr Ir, V.R P Ir μr w (gcC P hp0.length ids v s).v val ∧ Good P I0 Ir μ0 μr w0 w hp0 (gcC P hp0.length ids v s).hp (List.range hp0.length) (gcC P hp0.length ids v s).wr := by
  obtain ⟨Ir, μr, C', hV⟩ := (norm_weakV (keep := []) hp).run rfl C
  refine ⟨μr, Ir, hV _ _ hv, ⟨C'.isub, fun k hk => ?_, C'.evo, C'.le, fun b g hg => ?_, fun b _ blk h => C'.holds b blk h, fun b hb blk h g hg => ?_, fun b c b1 b2 g hne _ _ h1 h2 => C'.inj b c b1 b2 g hne h1 h2⟩⟩
  · rcases C'.igrow k hk with h | h | ⟨c, hcw, hcl, hcg, hca, hcn⟩
    · exact .inl h
    · exact .inr (.inl ⟨h, C'.ilt k hk⟩)
    · exact .inr (.inr ⟨c, hcw, hcg, hca, hcn⟩)
  · by_cases hb : b < hp0.length
    · exact .inl (C'.dom0 b g hg hb)
    · exact .inr ⟨by omega, C'.dom b g hg⟩
  · rcases C'.prov b hb blk h g hg with h | ⟨c, hcw, hcl, hcg, hca, hcn⟩
    · exact .inl h
    · exact .inr ⟨c, hcw, hcg, hca, hcn⟩
theorem fnOK_codeC {f : FuncId} {fn : Func} {c : Code} {vs : List V} {hp : Hp} {ex : Ex} {s : St} {v : List V} {r : Ret} (hfn : P.funcs[f]? = some fn) (hc : fn.body = some c)
    (h : SoundC P hp.length c ⟨Tm.start (vs.length + (fn.ntmps - vs.length)) vs, hp, []⟩ ex s) (hex : ex = .normal ∨ ex = .ret) (hres : evResultL P s.hp s.tm fn.results.toList = some v)
    {ids : List Nat} (hids : permOK hp.length ids = true) (hr : gcC P hp.length ids (oneOf v) s = r) : FnOK P f vs hp r := by
  subst hr
  have hst : SR hp s := h.st hp rfl ⟨Nat.le_refl _, fun _ _ _ => rfl, fun _ _ h => h⟩
  refine ⟨gcC_tidy hids hst, fun I w μ vals hvals pre hdom => ?_⟩
  have hh : ∀ b blk, hp[b]? = some (some blk) → Holds P I μ w b blk := fun b blk hb => pre.holds b (by simpa using at_lt hb) blk hb
  have hinj : ∀ b c blk blk' g, b ≠ c → hp[b]? = some (some blk) → hp[c]? = some (some blk') → μ b = some g → μ c = some g → False := fun b c b1 b2 g hne hb hc => pre.inj b (by simpa using at_lt hb) c (by simpa using at_lt hc) b1 b2 g hne hb hc
  have hvl := hvals.length
  simp at hvl
  have C0 : CI P hp I μ w ⟨Tm.start (vs.length + (fn.ntmps - vs.length)) vs, hp, []⟩ { tmps := vals ++ Array.replicate (fn.ntmps - vals.size) undef, defers := [] } w I μ := by
    refine ⟨fun t => ?_, by simp [hvl, Tm.start, Tm.fill_n], rfl, hh, hinj, hdom, fun b g hg _ => hg, .refl _ _, .refl _, fun b hb blk hblk => ?_, Nat.le_refl _, fun _ _ _ => rfl, fun _ _ h => h, by simp, .refl _, fun k h => .inl h, pre.ilt, ⟨hh, hinj, hdom⟩⟩
    · rcases Tm.start_get (vs.length + (fn.ntmps - vs.length)) vs t with e | e
      · show V.R P I μ w ((Tm.start (vs.length + (fn.ntmps - vs.length)) vs).get t) _
        rw [e]; simp [V.R]
      · have ht : t < vs.length := (List.getElem?_eq_some_iff.1 e).1
        obtain ⟨u, hu, hR⟩ := hvals.get e
        rw [Array.getElem?_toList] at hu
        rw [Array.getD_eq_getD_getElem?, Array.getElem?_append, if_pos (by omega), hu]
        exact hR
    · have := at_lt (hp := hp) hblk; omega
  refine calls_of_wp hfn hc ?_
  refine h.run rfl C0 fun a' w' μ' Im' C => ?_
  obtain ⟨val, hr, hR⟩ := results_sound (fn := fn) C.tm C.holds C.ilt C.inj hres
  obtain ⟨μr, Ir, hR', hG⟩ := gcC_sound hids C hdom hR
  rcases hex with rfl | rfl
  · exact ⟨C.defers, val, hr, val, μr, Ir, rfl, hR', hG⟩
  · exact ⟨C.defers, val, hr, val, μr, Ir, rfl, hR', hG⟩


theorem fnC_ok (hm : P.follows .mixedOrders = true) (hn : Named P) (hb : Bodied P callF) (hc : CallOK P callF) {n : Nat} {frozen : FuncId → Bool} : CallOK P (fnC P callF n frozen) := by
  intro f vs hp r h
  unfold fnC at h
  split at h
  · rename_i fn hfn
    split at h
    · rename_i c hbody
      obtain ⟨ex, s, h1, h2⟩ := codeC_ok hm hn hb hc (m := hp.length) h
      split at h2
      · cases h2
      · rename_i hex
        split at h2
        · rename_i v hv
          split at h2
          · rename_i hp1
            simp only [forceV_eq, forceH_eq, Option.some.injEq] at h2
            refine fnOK_codeC hfn hbody h1 ?_ hv hp1 ?_
            · cases ex with
              | normal => exact .inl rfl
              | ret => exact .inr rfl
              | exit i => exact absurd rfl (hex i)
            · rw [← h2]
          · cases h2
        · cases h2
    · cases h
  · cases h
theorem fnC_bodied {n : Nat} {frozen : FuncId → Bool} : Bodied P (fnC P callF n frozen) := by
  intro f vs hp r h
  unfold fnC at h
  split at h
  · rename_i fn hfn
    split at h
    · rename_i c hbody
      exact ⟨fn, hfn, by rw [hbody]; rfl⟩
    · cases h
  · cases h
theorem deepC_ok (hm : P.follows .mixedOrders = true) (hn : Named P) {ext : CallF} (hb : Bodied P ext) (hc : CallOK P ext) {n : Nat} {frozen : FuncId → Bool} : ∀ d, CallOK P (deepC P ext n frozen d) ∧ Bodied P (deepC P ext n frozen d)
  | 0 => ⟨fun _ _ _ _ h => (nomatch h), fun _ _ _ _ h => (nomatch h)⟩
  | d + 1 => by
    obtain ⟨h1, h2⟩ := deepC_ok hm hn hb hc (n := n) (frozen := frozen) d
    constructor
    · intro f vs hp r h
      unfold deepC at h
      split at h
      · rename_i he; cases h; exact hc _ _ _ _ he
      · exact fnC_ok hm hn h2 h1 _ _ _ _ h
    · intro f vs hp r h
      unfold deepC at h
      split at h
      · rename_i he; exact hb _ _ _ _ he
      · exact fnC_bodied _ _ _ _ h
end

end Go.Proofs.YtlimecojoiimaaaGreat

/-
  The small evaluator: maps. A map is a block whose content is its entries, key and value in turn.
  The small evaluator at inputs that are not known: trees of what is owed.
  Layouts of lists: general laws; numbers.
  The small evaluator: what is proved of a block that is sealed holds of one that is not.
  Loops whose rounds are counted.
  Values of the document, as they lie in memory.
  The source of choices, by trees.
  Values that are drawn.
-/
import Derived.Test.YtfncaghjfgnnhaaGreatDoorJxAd
import Derived.ChangeMaps5
namespace Go.Proofs.YtfncaghjfgnnhaaGreatDoor
open Go.RowKit Go.MapKept

def keyEq : V → V → Option Bool
  | .str a, .str b => some (a == b)
  | .int k a, .int k' b => if k = k' then some (a == b) else none
  | _, _ => none
def KFind (k : V) : List V → Option (Option V)
  | [] => some none
  | [_] => none
  | k' :: v :: l => match keyEq k k' with
    | some true => some (some v)
    | some false => KFind k l
    | none => none
def KPut (k v : V) : List V → Option (List V)
  | [] => some [k, v]
  | [_] => none
  | k' :: v' :: l => match keyEq k k' with
    | some true => some (k :: v :: l)
    | some false => (KPut k v l).map fun l => k' :: v' :: l
    | none => none
def keyD (P : Program) (kt : TypeId) (k : V) : Bool := match P.underlying kt, k with
  | some .string, .str _ => true
  | some (.int kd), .int kd' _ => decide (kd' = kd)
  | _, _ => false

section
variable {P : Program} {I : Nat → Prop} {μ μ' : Mu} {w w' : World} {hp : Hp}

theorem keyD_is {kt : TypeId} {k : V} {kv : Value} (h : keyD P kt k = true) (hk : V.R P I μ w k kv) : ∃ d, P.underlying kt = some d ∧ IsKey d kv := by
  unfold keyD at h
  split at h
  · rename_i hd
    simp only [V.R] at hk
    subst hk
    exact ⟨_, hd, trivial⟩
  · rename_i kd kd' n hd
    simp only [V.R] at hk
    subst hk
    rw [decide_eq_true_eq] at h
    subst h
    exact ⟨_, hd, rfl⟩
  · cases h
theorem keyD_refs {kt : TypeId} {k : V} (h : keyD P kt k = true) : k.refs = [] := by
  unfold keyD at h
  split at h <;> first | rfl | cases h
theorem bytes_eqb (a b : List UInt8) : ((⟨a.toArray⟩ : ByteArray) == ⟨b.toArray⟩) = (a == b) := by
  rw [Bool.eq_iff_iff, bytes_beq, beq_iff_eq]
  constructor
  · intro h; cases h; rfl
  · intro h; rw [h]
theorem keyEq_now {d : TypeDesc} {k k' : V} {kv kv' : Value} {b : Bool} (h : keyEq k k' = some b) (hk : V.R P I μ w k kv) (hk' : V.R P I μ' w k' kv') (hd : IsKey d kv) : Instr.sameNow d kv kv' = some b := by
  unfold keyEq at h
  split at h
  · simp only [V.R] at hk hk'
    subst hk hk'
    cases h
    cases d <;> simp only [IsKey] at hd
    simp only [Instr.sameNow, bytes_eqb]
  · split at h
    · rename_i e
      subst e
      simp only [V.R] at hk hk'
      subst hk hk'
      cases h
      cases d <;> simp only [IsKey] at hd
      simp only [Instr.sameNow, if_true]
    · cases h
  · cases h

theorem kfind_sound {d : TypeDesc} {k : V} {kv : Value} (hk : V.R P I μ w k kv) (hd : IsKey d kv) : ∀ {l : List V} {es : List MapEntry} {r : Option V} (i : Nat), MapR P I w l es → KFind k l = some r →
    (r = none ∧ Instr.findNow d kv es i = some none) ∨ ∃ v j u, r = some v ∧ Instr.findNow d kv es i = some (some (j, u)) ∧ V.R P I noMu w v u
  | [], es, r, i, h, hf => by
    simp only [MapR] at h
    subst h
    cases hf
    exact .inl ⟨rfl, rfl⟩
  | [_], _, _, _, h, _ => h.elim
  | k' :: v :: l, es, r, i, h, hf => by
    obtain ⟨e, es', rfl, h1, h2, h3⟩ := h
    unfold KFind at hf
    split at hf
    · rename_i he
      cases hf
      exact .inr ⟨v, i, e.val, rfl, by simp [Instr.findNow, keyEq_now he hk h1 hd], h2⟩
    · rename_i he
      rcases kfind_sound hk hd (i + 1) h3 hf with ⟨rfl, h⟩ | ⟨v', j, u, rfl, h, h'⟩
      · exact .inl ⟨rfl, by simp [Instr.findNow, keyEq_now he hk h1 hd, h]⟩
      · exact .inr ⟨v', j, u, rfl, by simp [Instr.findNow, keyEq_now he hk h1 hd, h], h'⟩
    · cases hf

theorem MapR.push {l : List V} {es : List MapEntry} {k v : V} {e : MapEntry} (hk : V.R P I noMu w k e.key) (hv : V.R P I noMu w v e.val) : MapR P I w l es → MapR P I w (l ++ [k, v]) (es ++ [e]) := by
  intro h
  match l, es, h with
  | [], es, h =>
    simp only [MapR] at h
    subst h
    exact ⟨e, [], rfl, hk, hv, rfl⟩
  | [_], _, h => exact h.elim
  | k' :: v' :: l, es, h =>
    obtain ⟨e', es', rfl, h1, h2, h3⟩ := h
    exact ⟨e', es' ++ [e], rfl, h1, h2, MapR.push hk hv h3⟩
theorem kput_sound {d : TypeDesc} {k v : V} {kv vv : Value} (hk : V.R P I noMu w k kv) (hv : V.R P I noMu w v vv) (hd : IsKey d kv) : ∀ {l l' : List V} {es : List MapEntry} (i : Nat), MapR P I w l es → KPut k v l = some l' →
    (Instr.findNow d kv es i = some none ∧ ∀ ck, MapR P I w l' (es ++ [{ key := kv, val := vv, born := ck }])) ∨
    ∃ j e u, Instr.findNow d kv es i = some (some (i + j, u)) ∧ es[j]? = some e ∧ e.key = kv ∧ MapR P I w l' (es.modify j fun e => { e with key := kv, val := vv })
  | [], l', es, i, h, hf => by
    simp only [MapR] at h
    subst h
    cases hf
    exact .inl ⟨rfl, fun ck => ⟨_, [], rfl, hk, hv, rfl⟩⟩
  | [_], _, _, _, h, _ => h.elim
  | k' :: v' :: l, l', es, i, h, hf => by
    obtain ⟨e, es', rfl, h1, h2, h3⟩ := h
    unfold KPut at hf
    split at hf
    · rename_i he
      cases hf
      have hnow := keyEq_now he hk h1 hd
      refine .inr ⟨0, e, e.val, by simp [Instr.findNow, hnow], rfl, ?_, ?_⟩
      · unfold keyEq at he
        split at he
        · rename_i a b
          have hab := eq_of_beq (Option.some.inj he)
          subst hab
          simp only [V.R] at hk h1
          rw [hk, h1]
        · split at he
          · rename_i ek
            subst ek
            have hab := eq_of_beq (Option.some.inj he)
            subst hab
            simp only [V.R] at hk h1
            rw [hk, h1]
          · cases he
        · cases he
      · exact ⟨_, es', rfl, hk, hv, h3⟩
    · rename_i he
      obtain ⟨l2, hl2, rfl⟩ := Option.map_eq_some_iff.1 hf
      have hnow := keyEq_now he hk h1 hd
      rcases kput_sound hk hv hd (i + 1) h3 hl2 with ⟨h, h'⟩ | ⟨j, e2, u, h, h', h'', h3'⟩
      · exact .inl ⟨by simp [Instr.findNow, hnow, h], fun ck => ⟨e, _, rfl, h1, h2, h' ck⟩⟩
      · exact .inr ⟨j + 1, e2, u, by simp [Instr.findNow, hnow, h]; omega, by simpa using h', h'', ⟨e, _, rfl, h1, h2, h3'⟩⟩
    · cases hf

theorem Good.newM {acc : List Nat} (pre : Pre P I μ w hp acc (hp.length + 1)) :
    Good P I I μ (μ.put hp.length w.heap.size []) w (w.alloc (.map #[] 0)) hp (hp ++ [some ([.sld [.slo []]], mapTid)]) acc [] := by
  have hE : Evo I w (w.alloc (.map #[] 0)) (fun k => ∃ b ∈ ([] : List Nat), μ.own b k) := .alloc _ _ _
  have hle : MuLe μ (μ.put hp.length w.heap.size []) := Mu.put_le (pre.fresh _ (Nat.le_refl _) (by omega))
  have hnew : (w.alloc (.map #[] 0)).heap[w.heap.size]? = some (.map #[] 0) := heap_alloc_new w _
  refine ⟨.refl _, fun _ h => .inl h, hE, hle, fun b g h => ?_, fun b _ hb => ?_, fun b hb blk' hblk => ?_, fun b hb blk' hblk g hg => ?_, fun b c blk' blk'' g hne hb hc h1 h2 g1 g2 => ?_⟩
  · by_cases hbl : b = hp.length
    · right; simp; omega
    · left; rwa [Mu.put_ne _ _ _ hbl] at h
  · exact Mu.put_fne _ _ _ (by rintro rfl; exact hb ⟨Nat.le_refl _, by simp⟩)
  · rcases app_at hblk with ⟨hl, h⟩ | ⟨rfl, rfl⟩
    · rcases hb with hb | hb
      · have hne : b ≠ hp.length := by omega
        exact (pre.holds b hb blk' h).keep hE (.refl _) hle (fun h0 => by rw [Mu.put_ne _ _ _ hne]; exact h0) (Mu.put_fne _ _ _ hne) (fun g _ hx => by obtain ⟨c, hc, _⟩ := hx; cases hc) (fun g hg => (pre.holds b hb blk' h).nimm hg)
      · omega
    · exact .inr (.inr ⟨w.heap.size, #[], 0, [], Mu.put_at _ _ _ _, fun hi => Nat.lt_irrefl _ (pre.ilt _ hi), hnew, rfl, rfl, Mu.put_ft _ _ _ _⟩)
  · rcases app_at hblk with ⟨hl, h⟩ | ⟨rfl, rfl⟩
    · rcases hb with hb | hb
      · omega
      · cases hb
    · rcases Mu.own_at _ hg with rfl | hg
      · exact .inl (Nat.le_refl _)
      · cases hg
  · have old : ∀ b blk', (b ∈ acc ∨ hp.length ≤ b) → b < hp.length → hp[b]? = some (some blk') → ∀ g, μ.own b g → g < w.heap.size := by
      intro b blk' hb hl h g hg
      rcases hb with hb | hb
      · exact (pre.holds b hb blk' h).lt hg
      · omega
    rcases app_at h1 with ⟨hl, h⟩ | ⟨rfl, rfl⟩
    · have g1' := Mu.own_ne _ (by omega) g1
      rcases app_at h2 with ⟨hl', h'⟩ | ⟨rfl, rfl⟩
      · have g2' := Mu.own_ne _ (by omega) g2
        rcases hb with hb | hb
        · rcases hc with hc | hc
          · exact pre.inj b hb c hc _ _ g hne h h' g1' g2'
          · omega
        · omega
      · have := old b blk' hb hl h g g1'
        rcases Mu.own_at _ g2 with rfl | g2
        · omega
        · cases g2
    · rcases app_at h2 with ⟨hl', h'⟩ | ⟨rfl, rfl⟩
      · have := old c blk'' hc hl' h' g (Mu.own_ne _ (by omega) g2)
        rcases Mu.own_at _ g1 with rfl | g1
        · omega
        · cases g1
      · exact hne rfl

theorem Holds.isMap {b : Nat} {c : List V} (h : Holds P I μ w b ([.sld (.slo [] :: c)], mapTid)) {g : Nat} (hg : μ b = some g) : ∃ es ck, w.heap[g]? = some (.map es ck) ∧ ¬ I g ∧ MapR P I w c es.toList ∧ μ.ft b = [] := by
  rcases h with ⟨g', cs, fr, h1, _, h2, _, ⟨_, h3⟩, _⟩ | ⟨h1, _⟩ | ⟨g', es, ck, c', h1, h0, h2, h3, h4, h5⟩
  · obtain ⟨us, vs', _, h4, _⟩ := CR.seal_iff.1 h3
    obtain ⟨_, _, _, h5, _⟩ := h4
    simp only [V.R] at h5
  · rw [hg] at h1; cases h1
  · rw [hg] at h1; cases h1
    cases h3
    exact ⟨es, ck, h2, h0, h4, h5⟩

theorem Good.writeM {acc : List Nat} {b g : Nat} {c c' : List V} {es es' : Array MapEntry} {ck ck' : Nat} (pre : Pre P I μ w hp acc hp.length) (hb : b ∈ acc) (hblk : hp[b]? = some (some ([.sld (.slo [] :: c)], mapTid))) (hg : μ b = some g)
    (hw : w.heap[g]? = some (.map es ck)) (hr : MapR P I w c' es'.toList) :
    Good P I I μ μ w { w with heap := w.heap.setIfInBounds g (.map es' ck') } hp (hp.set b (some ([.sld (.slo [] :: c')], mapTid))) acc [b] := by
  have hH := pre.holds b hb _ hblk
  have hgi := hH.nimm (.inl hg)
  obtain ⟨_, _, _, _, _, hft⟩ := hH.isMap hg
  have hE0 : Evo I w { w with heap := w.heap.setIfInBounds g (.map es' ck') } (fun k => k = g) := by
    refine ⟨rfl, rfl, rfl, by simp, fun k hk hn => (heap_set hw).2 k hn, fun k s h => ?_, fun k hk _ => (heap_set hw).2 k (by rintro rfl; exact hgi hk)⟩
    have hkg : k ≠ g := by
      rintro rfl
      unfold World.shape? at h
      rw [hw] at h; cases h
    unfold World.shape? at *
    rw [(heap_set hw).2 k hkg]
    exact h
  have hE : Evo I w { w with heap := w.heap.setIfInBounds g (.map es' ck') } (fun k => ∃ c ∈ [b], μ.own c k) := hE0.mono fun k hk => ⟨b, by simp, by rw [hk]; exact .inl hg⟩
  have hlt : ∀ d blk, (hp.set b (some ([.sld (.slo [] :: c')], mapTid)))[d]? = some (some blk) → d < hp.length := by
    intro d blk h; have := (List.getElem?_eq_some_iff.1 h).1; simpa using this
  refine ⟨.refl _, fun _ h => .inl h, hE, .refl _, fun b g h => .inl h, fun _ _ _ => rfl, fun d hd blk h => ?_, fun d hd blk h k hk => ?_, fun d e b1 b2 k hne hd he h1 h2 k1 k2 => ?_⟩
  · have hdl := hlt d blk h
    rcases set_at' h with ⟨rfl, rfl⟩ | ⟨hdb, h⟩
    · exact .inr (.inr ⟨g, es', ck', c', hg, hgi, (heap_set hw).1, rfl, hr.keep hE0 (.refl _), hft⟩)
    · rcases hd with hd | hd
      · refine (pre.holds d hd blk h).keep hE0 (.refl _) (.refl _) (fun h => h) rfl (fun k hk hx => ?_) (fun k hk => (pre.holds d hd blk h).nimm hk)
        subst hx
        exact pre.inj d hd b hb _ _ k hdb h hblk hk (.inl hg)
      · omega
  · rcases hd with hd | hd
    · have := hlt d blk h; omega
    · obtain rfl : d = b := by simpa using hd
      exact .inr ⟨d, by simp, hk, ⟨_, hblk⟩⟩
  · have hd' : d ∈ acc := by
      rcases hd with hd | hd
      · exact hd
      · have := hlt d b1 h1; omega
    have he' : e ∈ acc := by
      rcases he with he | he
      · exact he
      · have := hlt e b2 h2; omega
    have al : ∀ (c : Nat) (b1 : Blk), (hp.set b (some ([.sld (.slo [] :: c')], mapTid)))[c]? = some (some b1) → ∃ x : Blk, hp[c]? = some (some x) := by
      intro c b1 h
      rcases set_at' h with ⟨rfl, _⟩ | ⟨_, h⟩
      · exact ⟨_, hblk⟩
      · exact ⟨_, h⟩
    obtain ⟨_, h1'⟩ := al d b1 h1
    obtain ⟨_, h2'⟩ := al e b2 h2
    exact pre.inj _ hd' _ he' _ _ k hne h1' h2' k1 k2

structure MLk : Type 1 where
  {β : Type}
  v : β
  r : β → Bool × V
structure MPt : Type 1 where
  {β : Type}
  v : β
  r : β → List V
structure MapE : Type 1 where
  look : TypeId → List V → V → Option MLk := fun _ _ _ => none
  put : TypeId → List V → V → V → Option MPt := fun _ _ _ _ => none
def mapAt (hp : Hp) (b : Nat) : Option (List V) := match hp[b]? with
  | some (some ([.sld (.slo [] :: c)], T)) => bif Nat.beq T mapTid then some c else none
  | _ => none
theorem mapAt_some {b : Nat} {c : List V} (h : mapAt hp b = some c) : hp[b]? = some (some ([.sld (.slo [] :: c)], mapTid)) := by
  unfold mapAt at h
  split at h
  · rename_i c T hb
    cases hT : Nat.beq T mapTid
    · rw [hT] at h; cases h
    · rw [hT] at h; cases h
      rw [hb, Nat.eq_of_beq_eq_true hT]
  · cases h
def zeroOf (P : Program) (t : TypeId) : Option V := ((P.info? t).bind (·.zero)).map ofValue
def lookV (ok : Bool) (v : V) (f : Bool) : V := match ok with
  | true => .tup [v, .bool f]
  | false => v
def lookU (ok : Bool) (v : Value) (f : Bool) : Value := match ok with
  | true => .tuple #[v, .bool f]
  | false => v
theorem look_R {ok f : Bool} {v : V} {u : Value} (h : V.R P I μ w v u) : V.R P I μ w (lookV ok v f) (lookU ok u f) := by
  cases ok
  · exact h
  · simp only [lookV, lookU, V.R, V.RL]
    exact ⟨_, rfl, u, _, rfl, h, _, _, rfl, rfl, rfl⟩
def mLook (P : Program) (lk : Option (Bool × V)) (hp : Hp) (t : TypeId) (m k : V) (ok : Bool) : SO :=
  match P.underlying t with
  | some (.map kt et) => match keyD P kt k, zeroOf P et with
    | true, some z => match m with
      | .box .map [.ptr b 0] => match mapAt hp b with
        | some c => match lk with
          | some (f, v) => .one [(f = true → KFind k c = some (some v)) ∧ (f = false → KFind k c = some none ∧ v = z)] ⟨lookV ok v f, hp, [b], []⟩
          | none => match KFind k c with
            | some (some v) => .one [] ⟨lookV ok v true, hp, [b], []⟩
            | some none => .one [] ⟨lookV ok z false, hp, [b], []⟩
            | none => .no
        | none => .no
      | .lit (.map none) => .one [] ⟨lookV ok z false, hp, [], []⟩
      | _ => .no
    | _, _ => .no
  | _ => .no
def mPut (P : Program) (pt : Option (List V)) (hp : Hp) (t : TypeId) (m k v : V) : SO :=
  match P.underlying t with
  | some (.map kt et) => match keyD P kt k, V.refs v with
    | true, [] => match m with
      | .box .map [.ptr b 0] => match mapAt hp b with
        | some c => match pt with
          | some c' => .one [KPut k v c = some c'] ⟨.junk, hp.set b (some ([.sld (.slo [] :: c')], mapTid)), [b], [b]⟩
          | none => match KPut k v c with
            | some c' => .one [] ⟨.junk, hp.set b (some ([.sld (.slo [] :: c')], mapTid)), [b], [b]⟩
            | none => .no
        | none => .no
      | _ => .no
    | _, _ => .no
  | _ => .no
def isNilI : V → Option Bool
  | .lit .nilIface => some true
  | .box (.iface _) [_] => some false
  | _ => none
def nilOp (P : Program) (e : Operand → V) (hp : Hp) (op : BinOp) (t : TypeId) (x : Operand) : SO := match P.underlying t, isNilI (e x), op with
  | some (.interface _), some b, .eql => .one [] ⟨.bool b, hp, [], []⟩
  | some (.interface _), some b, .neq => .one [] ⟨.bool (!b), hp, [], []⟩
  | _, _, _ => .no
def mOp (P : Program) (lk : Option (Bool × V)) (pt : Option (List V)) (e : Operand → V) (hp : Hp) : Op → SO
  | .makeMap _ none => .one [] ⟨.box .map [.ptr hp.length 0], hp ++ [some ([.sld [.slo []]], mapTid)], [], []⟩
  | .lookup t m k ok => mLook P lk hp t (e m) (e k) ok
  | .mapUpdate t m k v => mPut P pt hp t (e m) (e k) (e v)
  | .insert t m k v => mPut P pt hp t (e m) (e k) (e v)
  | .binOp op t x (.const .nilIface) _ => nilOp P e hp op t x
  | _ => .no

inductive MAsk : Type 1 where
  | look (l : MLk)
  | put (l : MPt)
  | no
def mAsk (P : Program) (E : MapE) (e : Operand → V) (hp : Hp) : Op → MAsk
  | .lookup t m k _ => match e m, P.underlying t with
    | .box .map [.ptr b 0], some (.map _ et) => match mapAt hp b with
      | some c => match E.look et c (e k) with
        | some l => .look l
        | none => .no
      | none => .no
    | _, _ => .no
  | .mapUpdate t m k v => match e m, P.underlying t with
    | .box .map [.ptr b 0], some (.map _ et) => match mapAt hp b with
      | some c => match E.put et c (e k) (e v) with
        | some l => .put l
        | none => .no
      | none => .no
    | _, _ => .no
  | .insert t m k v => match e m, P.underlying t with
    | .box .map [.ptr b 0], some (.map _ et) => match mapAt hp b with
      | some c => match E.put et c (e k) (e v) with
        | some l => .put l
        | none => .no
      | none => .no
    | _, _ => .no
  | _ => .no
theorem box_map {b : Nat} {u : Value} (h : V.R P I μ w (.box .map [.ptr b 0]) u) : ∃ g, μ b = some g ∧ u = .map (some g) := by
  simp only [V.R, V.RL] at h
  obtain ⟨vs, rfl, u, us, hvs, ⟨g, hg, rfl⟩, rfl⟩ := h
  obtain rfl : vs = #[.pointer (some ⟨g, 0, none⟩)] := by cases vs; simp_all
  exact ⟨g, hg, rfl⟩
theorem look_run {t kt et : TypeId} {d : TypeDesc} {g : Nat} {es : Array MapEntry} {ck : Nat} {c : List V} {k : V} {kv : Value} {ok : Bool} {z : Value} {r : Option V} (ht : P.underlying t = some (.map kt et)) (hd : P.underlying kt = some d) (hkd : IsKey d kv) (hk : V.R P I μ w k kv)
    (hz : (P.info? et).bind (·.zero) = some z) (hw : w.heap[g]? = some (.map es ck)) (hr : MapR P I w c es.toList) (hf : KFind k c = some r) :
    ∃ u, (Instr.lookup t (.map (some g)) kv ok).run P w = .ok u w ∧ V.R P I μ w (lookV ok (r.getD (ofValue z)) r.isSome) u := by
  have hzr : (zeroValue et).run P w = .ok z w := by
    obtain ⟨i, hi, hz⟩ := Option.bind_eq_some_iff.1 hz
    simp [zeroValue, typeInfo, hi, hz, Sem.run_bind]
  rcases kfind_sound hk hkd 0 hr hf with ⟨rfl, h⟩ | ⟨v, j, u, rfl, h, hv⟩
  · refine ⟨lookU ok z false, ?_, ?_⟩
    · cases ok <;> simp [lookU, Instr.lookup, run_underlying ht, Go.MapKept.run_getObj_map hw, Go.MapKept.run_checkKey hd hkd, Go.MapKept.run_findKey hd h, hzr, Result.andThen]
    · exact look_R (R_ofValue z)
  · refine ⟨lookU ok u true, ?_, ?_⟩
    · cases ok <;> simp [lookU, Instr.lookup, run_underlying ht, Go.MapKept.run_getObj_map hw, Go.MapKept.run_checkKey hd hkd, Go.MapKept.run_findKey hd h, Result.andThen]
    · exact look_R (R_up hv)
theorem mLook_ok {lk : Option (Bool × V)} {e : Operand → V} {t : TypeId} {m k : Operand} {ok : Bool} {ps : List Prop} {out : Out} (h : mLook P lk hp t (e m) (e k) ok = .one ps out) (ha : All ps) : OpOK P e hp (.lookup t m k ok) out := by
  unfold mLook at h
  split at h
  case h_2 => cases h
  rename_i kt et ht
  split at h
  case h_2 => cases h
  rename_i z hkd hz
  obtain ⟨zv, hzv, rfl⟩ := Option.map_eq_some_iff.1 hz
  split at h
  · rename_i b hm
    split at h
    case h_2 => cases h
    rename_i c hc
    have hb := mapAt_some hc
    have hbl := (List.getElem?_eq_some_iff.1 hb).1
    have key : ∀ r : Option V, KFind (e k) c = some r → OpOK P e hp (.lookup t m k ok) ⟨lookV ok (r.getD (ofValue zv)) r.isSome, hp, [b], []⟩ := by
      intro r hf
      refine ⟨.same hp (by simpa using hbl), fun {I μ w oper a K Q} ho hops pre hK => ?_⟩
      have hmr := hops m (by simp [Op.operands])
      have hkr := hops k (by simp [Op.operands])
      rw [hm] at hmr
      obtain ⟨g, hg, hmv⟩ := box_map hmr
      obtain ⟨d, hd, hkd⟩ := keyD_is hkd hkr
      obtain ⟨es, ck, hw, _, hr, _⟩ := (pre.holds b (by simp) _ hb).isMap hg
      obtain ⟨u, hrun, hu⟩ := look_run (ok := ok) ht hd hkd hkr hzv hw hr hf
      have := hK u w μ I hu (Good.same hp pre)
      unfold Oper.wp
      simp only [execOp, ho, hmv, Sem.run_bind, hrun, Result.andThen_ok, Sem.run_pure]
      exact this
    split at h
    · rename_i f v
      cases h
      obtain ⟨⟨h1, h2⟩, _⟩ := ha
      cases f
      · obtain ⟨h3, rfl⟩ := h2 rfl
        exact key none h3
      · exact key (some v) (h1 rfl)
    · split at h
      · rename_i v hf
        cases h
        exact key (some v) hf
      · rename_i hf
        cases h
        exact key none hf
      · cases h
  · rename_i hm
    cases h
    refine ⟨.same hp (by simp), fun {I μ w oper a K Q} ho hops pre hK => ?_⟩
    have hmr := hops m (by simp [Op.operands])
    have hkr := hops k (by simp [Op.operands])
    rw [hm] at hmr
    simp only [V.R] at hmr
    obtain ⟨d, hd, hkd⟩ := keyD_is hkd hkr
    have hzr : (zeroValue et).run P w = .ok zv w := by
      obtain ⟨i, hi, hz⟩ := Option.bind_eq_some_iff.1 hzv
      simp [zeroValue, typeInfo, hi, hz, Sem.run_bind]
    have hrun : (Instr.lookup t (a.eval m) (a.eval k) ok).run P w = .ok (lookU ok zv false) w := by
      rw [hmr]
      cases ok <;> simp [lookU, Instr.lookup, run_underlying ht, Go.MapKept.run_checkKey hd hkd, Go.MapKept.run_findKey hd (show Instr.findNow d (a.eval k) [] 0 = some none from rfl), hzr, Result.andThen]
    have := hK _ w μ I (show V.R P I μ w (lookV ok (ofValue zv) false) (lookU ok zv false) from look_R (R_ofValue zv)) (Good.same hp pre)
    unfold Oper.wp
    simp only [execOp, ho, Sem.run_bind, hrun, Result.andThen_ok, Sem.run_pure]
    exact this
  · cases h
theorem mPut_run {t kt et : TypeId} {d : TypeDesc} {g : Nat} {es : Array MapEntry} {ck : Nat} {c c' : List V} {k v : V} {kv vv : Value} (ht : P.underlying t = some (.map kt et)) (hd : P.underlying kt = some d) (hkd : IsKey d kv) (hk : V.R P I noMu w k kv) (hv : V.R P I noMu w v vv)
    (hw : w.heap[g]? = some (.map es ck)) (hr : MapR P I w c es.toList) (hf : KPut k v c = some c') :
    ∃ es' ck', (Instr.mapUpdate t (.map (some g)) kv vv).run P w = .ok () { w with heap := w.heap.setIfInBounds g (.map es' ck') } ∧ MapR P I w c' es'.toList := by
  rcases kput_sound hk hv hkd 0 hr hf with ⟨h, h'⟩ | ⟨j, e, u, h, h', h'', h3⟩
  · refine ⟨es.push ⟨kv, vv, ck⟩, ck + 1, ?_, ?_⟩
    · simp [Instr.mapUpdate, run_underlying ht, Go.MapKept.run_getObj_map hw, Go.MapKept.run_checkKey hd hkd, Go.MapKept.run_findKey hd h, Go.MapKept.run_setObj_map _ hw, Result.andThen]
    · rw [Array.toList_push]; exact h' ck
  · have hj : es[j]? = some e := by simpa using h'
    refine ⟨es.modify j (fun e' => { e' with key := kv, val := vv }), ck, ?_, ?_⟩
    · simp [Instr.mapUpdate, run_underlying ht, Go.MapKept.run_getObj_map hw, Go.MapKept.run_checkKey hd hkd, Go.MapKept.run_findKey hd h, hj, h'', Go.MapKept.run_keyThatStays hkd, Go.MapKept.run_setObj_map _ hw, Result.andThen]
    · rw [Array.toList_modify]; exact h3
theorem mPut_ok {pt : Option (List V)} {e : Operand → V} {t : TypeId} {m k v : Operand} {op : Op} (hop : op = .mapUpdate t m k v ∨ op = .insert t m k v) {ps : List Prop} {out : Out} (h : mPut P pt hp t (e m) (e k) (e v) = .one ps out) (ha : All ps) : OpOK P e hp op out := by
  unfold mPut at h
  split at h
  case h_2 => cases h
  rename_i kt et ht
  split at h
  case h_2 => cases h
  rename_i hkd hrf
  split at h
  case h_2 => cases h
  rename_i b hm
  split at h
  case h_2 => cases h
  rename_i c hc
  have hb := mapAt_some hc
  have hbl := (List.getElem?_eq_some_iff.1 hb).1
  have key : ∀ c', KPut (e k) (e v) c = some c' → OpOK P e hp op ⟨.junk, hp.set b (some ([.sld (.slo [] :: c')], mapTid)), [b], [b]⟩ := by
    intro c' hf
    have t1 := prep_tidy hb (some ([.sld (.slo [] :: c')], mapTid)) []
    rw [List.append_nil] at t1
    refine ⟨t1, fun {I μ w oper a K Q} ho hops pre hK => ?_⟩
    have hopx : op.operands = #[m, k, v] := by rcases hop with rfl | rfl <;> rfl
    rw [hopx] at hops
    have hmr := hops m (by simp)
    have hkr := hops k (by simp)
    have hvr := hops v (by simp)
    rw [hm] at hmr
    obtain ⟨g, hg, hmv⟩ := box_map hmr
    obtain ⟨d, hd, hkd'⟩ := keyD_is hkd hkr
    obtain ⟨es, ck, hw, _, hr, _⟩ := (pre.holds b (by simp) _ hb).isMap hg
    obtain ⟨es', ck', hrun, hr'⟩ := mPut_run ht hd hkd' (R_nomu _ _ (keyD_refs hkd) hkr) (R_nomu _ _ hrf hvr) hw hr hf
    have hG := Good.writeM (ck' := ck') (by simpa using pre) (by simp) hb hg hw hr'
    have := hK undef _ _ _ (by simp [V.R]) hG
    unfold Oper.wp
    rcases hop with rfl | rfl
    all_goals
      simp only [execOp, ho, hmv, Sem.run_bind, hrun, Result.andThen_ok, Sem.run_pure]
      exact this
  split at h
  · rename_i c'
    cases h
    exact key c' ha.1
  · split at h
    · rename_i c' hf
      cases h
      exact key c' hf
    · cases h
theorem nilI_R {x : V} {u : Value} {b : Bool} (h : isNilI x = some b) (hx : V.R P I μ w x u) : (b = true ∧ u = .nilIface) ∨ (b = false ∧ ∃ t v, u = .iface t v) := by
  unfold isNilI at h
  split at h
  · simp only [V.R] at hx
    cases h
    exact .inl ⟨rfl, hx⟩
  · simp only [V.R] at hx
    obtain ⟨vs, rfl, _⟩ := hx
    cases h
    exact .inr ⟨rfl, _, _, rfl⟩
  · cases h
theorem nilI_run {t : TypeId} {ms : Array (String × TypeId)} {u : Value} {b : Bool} (ht : P.underlying t = some (.interface ms)) (h : (b = true ∧ u = .nilIface) ∨ (b = false ∧ ∃ t v, u = .iface t v)) :
    (binOp .eql t u .nilIface).run P w = .ok (.bool b) w ∧ (binOp .neq t u .nilIface).run P w = .ok (.bool (!b)) w := by
  have hE : (Op.equal t u .nilIface).run P w = .ok b w := by
    have h1 : ∀ d : Nat, (Op.equalIn (d + 1) t u .nilIface).run P w = .ok b w := fun d => by
      rcases h with ⟨rfl, rfl⟩ | ⟨rfl, t', v, rfl⟩ <;> simp [Op.equalIn, run_underlying ht, Result.andThen]
    simp [Op.equal, Op.maxDepth, h1 9999]
  rcases h with ⟨rfl, rfl⟩ | ⟨rfl, t', v, rfl⟩ <;> exact ⟨by simp [binOp, hE, Result.andThen], by simp [binOp, hE, Result.andThen]⟩
theorem nilOp_ok {e : Operand → V} {op : BinOp} {t t2 : TypeId} {x : Operand} {ps : List Prop} {out : Out} (h : nilOp P e hp op t x = .one ps out) : OpOK P e hp (.binOp op t x (.const .nilIface) t2) out := by
  have key : ∀ (op : BinOp) (b c : Bool) (ms : Array (String × TypeId)), P.underlying t = some (.interface ms) → isNilI (e x) = some b → ((op = .eql ∧ c = b) ∨ (op = .neq ∧ c = !b)) → OpOK P e hp (.binOp op t x (.const .nilIface) t2) ⟨.bool c, hp, [], []⟩ := by
    intro op b c ms ht hb hc
    refine ⟨.same hp (by simp), fun {I μ w oper a K Q} ho hops pre hK => ?_⟩
    have hxr := nilI_R hb (hops x (by simp [Op.operands]))
    have hr := nilI_run (w := w) ht hxr
    have hrun : (do eqGuard op t x (.const .nilIface) (a.eval x) (a.eval (.const .nilIface)); binOp op t (a.eval x) (a.eval (.const .nilIface)) : Sem Value).run P w = .ok (.bool c) w := by
      have e0 : a.eval (.const .nilIface) = .nilIface := rfl
      rw [e0]
      rcases hc with ⟨rfl, rfl⟩ | ⟨rfl, rfl⟩
      · rcases hxr with ⟨_, hu⟩ | ⟨_, t', v, hu⟩ <;> rw [hu] at hr ⊢ <;> simp [eqGuard, hr.1, Result.andThen]
      · rcases hxr with ⟨_, hu⟩ | ⟨_, t', v, hu⟩ <;> rw [hu] at hr ⊢ <;> simp [eqGuard, hr.2, Result.andThen]
    have := hK (.bool c) w μ I (by simp only [V.R]) (Good.same hp pre)
    unfold Oper.wp
    simp only [execOp, ho, Sem.run_bind] at hrun ⊢
    rw [hrun]
    exact this
  unfold nilOp at h
  split at h
  · rename_i ms b ht hb
    cases h
    exact key _ b _ ms ht hb (.inl ⟨rfl, rfl⟩)
  · rename_i ms b ht hb
    cases h
    exact key _ b _ ms ht hb (.inr ⟨rfl, rfl⟩)
  · cases h
theorem mOp_ok {lk : Option (Bool × V)} {pt : Option (List V)} {e : Operand → V} {op : Op} {ps : List Prop} {out : Out} (h : mOp P lk pt e hp op = .one ps out) (ha : All ps) : OpOK P e hp op out := by
  unfold mOp at h
  split at h
  · rename_i t
    cases h
    refine ⟨.new hp _ (by simp), fun {I μ w oper a K Q} ho hops pre hK => ?_⟩
    have hrun : (Instr.makeMap t none).run P w = .ok (.map (some w.heap.size)) (w.alloc (.map #[] 0)) := by
      simp [Instr.makeMap, Result.andThen]
    have := hK (.map (some w.heap.size)) _ _ _ (by
      simp only [V.R, V.RL]
      exact ⟨#[.pointer (some ⟨w.heap.size, 0, none⟩)], rfl, _, [], rfl, ⟨w.heap.size, Mu.put_at μ hp.length _ _, rfl⟩, rfl⟩) (Good.newM (by simpa using pre))
    unfold Oper.wp
    simp only [execOp, ho, Option.map_none, Sem.run_bind, hrun, Result.andThen_ok, Sem.run_pure]
    exact this
  · exact mLook_ok h ha
  · exact mPut_ok (.inl rfl) h ha
  · exact mPut_ok (.inr rfl) h ha
  · exact nilOp_ok h
  · cases h
end
end Go.Proofs.YtfncaghjfgnnhaaGreatDoor

namespace Go.Proofs.YtfncaghjfgnnhaaGreatDoor
open Go.RowKit

inductive T (α : Type) : Type 1 where
  | done (a : α)
  | need (ps : List Prop) (t : T α)
  | bind {β : Type} (v : β) (k : β → T α)
  | fail
def T.WP {α : Type} (Q : α → Prop) : T α → Prop
  | .done a => Q a
  | .need ps t => All ps ∧ t.WP Q
  | .bind v k => ∀ y, y = v → (k y).WP Q
  | .fail => False
def T.force {α : Type} (t : T α) : T α := match t with
  | .done a => .done a
  | .need ps t => .need ps t
  | .bind v k => .bind v k
  | .fail => .fail
theorem T.force_eq {α : Type} (t : T α) : t.force = t := by cases t <;> rfl
def needs {α : Type} (ps : List Prop) (t : T α) : T α :=
  match ps with
  | [] => t
  | p :: ps => .need (p :: ps) t
theorem WP_needs {α : Type} {Q : α → Prop} {ps : List Prop} {t : T α} (h : (needs ps t).WP Q) : All ps ∧ t.WP Q := by
  cases ps with
  | nil => exact ⟨trivial, h⟩
  | cons p ps => exact h
theorem WP_cond {α : Type} {Q : α → Prop} {b : Bool} {x y : T α} : (cond b x y).WP Q ↔ (b = true → x.WP Q) ∧ (b = false → y.WP Q) := by
  cases b <;> simp

theorem WP_cond_or {α : Type} {Q : α → Prop} {b : Bool} {x y : T α} (h : (cond b x y).WP Q) : x.WP Q ∨ y.WP Q := by
  cases b
  · exact .inr h
  · exact .inl h

structure RRes : Type 1 where
  {β : Type}
  v : β
  r : β → Ret
abbrev ResT := FuncId → List V → Hp → Option RRes

inductive LAlt where
  | one (k : Kp) (s0 : St) (ex : Ex) (s1 : St)
  | two (k : Kp) (s0 : St) (c : Bool) (ex : Ex) (s1 : St) (ex' : Ex) (s1' : St)

structure LRes : Type 1 where
  {β : Type}
  v : β
  alt : β → LAlt

structure Env : Type 1 where
  P : Program
  vw : Vw
  res : ResT
  ls : Nat → St → Option LRes := fun _ _ => none
  vs : List (Nat × Nat × V) := []
  mt : List (TypeId × String × FuncId) := []
  pk : Option OwnT := none
  mp : MapE := {}
  sp : Nat → Nat → FuncId → List V → Hp → Option (Bool × Ret × Ret) := fun _ _ _ _ _ => none

def vsAt (vs : List (Nat × Nat × V)) (r i : Nat) : Option V := (vs.find? fun h => Nat.beq h.1 r && Nat.beq h.2.1 i).map (·.2.2)

def bodyB (P : Program) (f : FuncId) : Bool := match P.funcs[f]? with
  | some fn => fn.body.isSome
  | none => false
def callOut (hp : Hp) (ids : List Nat) (r : Ret) : Out :=
  ⟨V.ren (backTo ids hp.length) r.v, (hp.zipIdx.map fun x => if (r.wr.filterMap fun j => ids[j]?).contains x.2 then renB (backTo ids hp.length) (((pos ids x.2).bind fun j => r.hp[j]?).getD none) else x.1) ++ (r.hp.drop ids.length).map (renB (backTo ids hp.length)), ids, r.wr.filterMap fun j => ids[j]?⟩

section
variable {α : Type}

def callT (E : Env) (r i : Nat) (hp : Hp) (f : FuncId) (vs : List V) (k : Out → T α) : T α :=
  let ids := reach hp 100000 (V.refsL vs) []
  let vs' := V.renL (pos ids) vs
  let hp' := ids.map fun b => renB (pos ids) (hp.getD b none)
  match E.sp r i f vs' hp', bodyB E.P f with
  | some (c, r1, r2), true => cond c (.need [FnOK E.P f vs' hp' r1] (k (callOut hp ids r1))) (.need [FnOK E.P f vs' hp' r2] (k (callOut hp ids r2)))
  | _, b => match E.res f vs' hp', b with
    | some ⟨v, r⟩, true => .bind v fun y => .need [FnOK E.P f vs' hp' (r y)] (k (callOut hp ids (r y)))
    | _, _ => .fail

noncomputable def opT (E : Env) (r i : Nat) (e : Operand → V) (hp : Hp) (op : Op) (k : Out → T α) : T α :=
  match op with
  | .call { callee := .value f, args := args, argTypes := _ } =>
    match e f with
    | .fn g cap => callT E r i hp g (args.toList.map e ++ cap) k
    | _ => .fail
  | .call { callee := .invoke x name, args := args, argTypes := _ } =>
    match e x with
    | .box (.iface t) [v] => match E.mt.find? (fun m => Nat.beq m.1 t && m.2.1 == name) with
      | some (t', name', f) => .need [t' = t, name' = name, MethodIs E.P t name f] (callT E r i hp f (v :: args.toList.map e) k)
      | none => .fail
    | _ => .fail
  | op => match vsAt E.vs r i, op with
    | some v, .load t x => match (e x).asPtr with
      | .ptr b o => match hp[b]?, E.P.underlying t, szOf E.P t with
        | some (some blk), some d, some _ => match rowD d || v.isO || Nat.beq blk.2 mapTid with
          | true => .fail
          | false => .need [(flat blk.1)[o]? = some v] (k ⟨v, hp, [b], []⟩)
        | _, _, _ => .fail
      | _ => .fail
    | _, op => match mAsk E.P E.mp e hp op with
      | .look l => .bind l.v fun y => match mOp E.P (some (l.r y)) none e hp op with
        | .one ps o => needs ps (k o)
        | _ => .fail
      | .put l => .bind l.v fun y => match mOp E.P none (some (l.r y)) e hp op with
        | .one ps o => needs ps (k o)
        | _ => .fail
      | .no => match mOp E.P none none e hp op with
      | .one ps o => needs ps (k o)
      | _ => match dOp E.P E.vw e hp op with
      | .one ps o => needs ps (k o)
      | _ => match evOpS E.P E.vw e hp op with
      | .one ps o => needs ps (k o)
      | .two c ps o qs o' => cond c (needs ps (k o)) (needs qs (k o'))
      | .no => match evPlain E.P e hp op with
        | some o => k o
        | none => match sMore E.P e hp op with
          | .one ps o => needs ps (k o)
          | _ => .fail

def knowK {β : Type _} (s : St) (d : Nat) (b : Bool) (k : St → β) : β := putK s.tm (some d) (.bool b) fun tm => k ⟨tm, s.hp, s.wr⟩
theorem Tr.set_same : ∀ (t : Tr) (i : Nat), t.set i (t.get i) = t
  | .leaf, _ => rfl
  | .node v l r, i => by
    unfold Tr.set Tr.get
    cases h0 : Nat.beq i 0
    · cases h1 : Nat.beq (i % 2) 1
      · simp only [Tr.set_same r]
      · simp only [Tr.set_same l]
    · rfl
theorem knowK_eq {β : Type _} {s : St} {d : Nat} {b : Bool} {k : St → β} (h : s.tm.get d = .bool b) : knowK s d b k = k s := by
  unfold knowK
  rw [putK_eq]
  have : putV s.tm (some d) (.bool b) = s.tm := by
    unfold Tm.get at h
    split at h
    · show (⟨s.tm.n, s.tm.t.set d (.bool b)⟩ : Tm) = s.tm
      rw [← h, Tr.set_same]
    · cases h
  rw [this]

noncomputable def runT (E : Env) (r i : Nat) (s : St) (o : Oper) (k : St → List Nat → List Nat → T α) : T α := opT E r i (evalV s.tm) s.hp o.op fun out => forceV out.v fun v => putK s.tm o.dst v fun tm => k ⟨tm, out.hp, forceW out.wr s.wr⟩ out.acc out.wr
def skipT (s : St) (o : Oper) (k : St → List Nat → List Nat → T α) : T α := putK s.tm o.dst (.lit undef) fun tm => k ⟨tm, s.hp, s.wr⟩ [] []
noncomputable def stepT (E : Env) (ops : Array Oper) (r i : Nat) (s : St) (o : Oper) (k : St → List Nat → List Nat → T α) : T α :=
  match o.guard with
  | none => opT E r i (evalV s.tm) s.hp o.op fun out => forceV out.v fun v => putK s.tm o.dst v fun tm => k ⟨tm, out.hp, forceW out.wr s.wr⟩ out.acc out.wr
  | some (j, want) => match (ops[j]?).bind (·.dst) with
    | some d => match s.tm.get d with
      | .bool b => match want with
        | true => cond b (knowK s d true fun s => runT E r i s o k) (knowK s d false fun s => skipT s o k)
        | false => cond b (knowK s d true fun s => skipT s o k) (knowK s d false fun s => runT E r i s o k)
      | .lit (.tuple _) => putK s.tm o.dst (.lit undef) fun tm => k ⟨tm, s.hp, s.wr⟩ [] []
      | _ => .fail
    | none => .fail

noncomputable def traceT (E : Env) (ops : Array Oper) (r : Nat) : Nat → List Oper → St → List Rec → (List Rec → St → T α) → T α
  | _, [], s, acc, k => k acc.reverse s
  | i, o :: rest, s, acc, k => stepT E ops r i s o fun s' ac wr => traceT E ops r (i + 1) rest s' ((s, ac, wr) :: acc) k

noncomputable def codeT (E : Env) (m : Nat) : Code → St → (Ex → St → T α) → T α
  | .skip, s, k => k .normal s
  | .region id ops draw, s, k => traceT E ops id 0 ops.toList s [] fun l s2 => match draw with
    | false => k .normal s2
    | true => match drawOK ops l s2 with
      | true => k .normal s2
      | false => .fail
  | .seq x y, s, k => codeT E m x s fun ex s' => match ex with
    | .normal => codeT E m y s' k
    | .exit i => k (.exit i) s'
    | .ret => k .ret s'
  | .cond c x y, s, k => match evalV s.tm c with
    | .bool b => match c with
      | .tmp t => cond b (knowK s t true fun s => codeT E m x s k) (knowK s t false fun s => codeT E m y s k)
      | _ => cond b (codeT E m x s k) (codeT E m y s k)
    | _ => .fail
  | .block id body, s, k => match E.ls id s with
    | some ⟨v, alt⟩ => .bind v fun y => match alt y with
      | .one kp s0 ex s1 => match permS E.P m kp s with
        | true => .need [normS E.P m kp s = s0, SoundC E.P m body s0 ex s1] (k (outEx id ex) s1)
        | false => .fail
      | .two kp s0 c ex s1 ex' s1' => match permS E.P m kp s with
        | true => .need [normS E.P m kp s = s0] (cond c (.need [SoundC E.P m body s0 ex s1] (k (outEx id ex) s1)) (.need [SoundC E.P m body s0 ex' s1'] (k (outEx id ex') s1')))
        | false => .fail
    | none => codeT E m body s fun ex s' => k (outEx id ex) s'
  | .exit id, s, k => k (.exit id) s
  | .ret, s, k => k .ret s
  | _, _, _ => .fail

def keepIds (m mode : Nat) (v : List V) (hp : Hp) : List Nat :=
  (List.range m ++ ((match mode with
    | 0 => V.ptrsL v
    | 1 => V.refsL v
    | _ => V.refsL v ++ (hp.take m).flatMap (fun (x : Option Blk) => match x with | some blk => V.refsL blk.1 | none => [])).filter fun b => Nat.ble m b)).eraseDups
def sealIds (m : Nat) (ids : List Nat) (ptrs : List Nat) : List Nat := ((List.range ids.length).filter fun j => Nat.ble m j && !(ptrs.contains (ids.getD j 0)))
def retT (E : Env) (m mode : Nat) (fn : Func) (s : St) : T Ret :=
  match evResultL E.P s.hp s.tm fn.results.toList with
  | some v => match permOK m (keepIds m mode [packF E.P E.pk m [] (oneOf v) s (oneOf v)] (packO E.P E.pk m [] (oneOf v) s).hp) with
    | true => .done (gc E.P m (keepIds m mode [packF E.P E.pk m [] (oneOf v) s (oneOf v)] (packO E.P E.pk m [] (oneOf v) s).hp) (sealIds m (keepIds m mode [packF E.P E.pk m [] (oneOf v) s (oneOf v)] (packO E.P E.pk m [] (oneOf v) s).hp) (V.ptrsL [packF E.P E.pk m [] (oneOf v) s (oneOf v)])) (packF E.P E.pk m [] (oneOf v) s (oneOf v)) (packO E.P E.pk m [] (oneOf v) s))
    | false => .fail
  | none => .fail
noncomputable def fnT (E : Env) (mode : Nat) (f : FuncId) (vs : List V) (hp : Hp) : T Ret :=
  match E.P.funcs[f]? with
  | some fn => match fn.body with
    | some c => codeT E hp.length c ⟨Tm.start (vs.length + (fn.ntmps - vs.length)) vs, hp, []⟩ fun ex s => match ex with
      | .normal => retT E hp.length mode fn s
      | .ret => retT E hp.length mode fn s
      | .exit _ => .fail
    | none => .fail
  | none => .fail
noncomputable def bodyT (E : Env) (m : Nat) (nf : Ex → Kp) (c : Code) (s : St) : T (Ex × St) :=
  codeT E m c s fun ex s' => match permS E.P m (nf ex) s' with
    | true => .done (ex, normS E.P m (nf ex) s')
    | false => .fail

variable {E : Env} {Q : α → Prop}

theorem noCall_ok (P : Program) : CallOK P fun _ _ _ => none := fun _ _ _ _ h => by cases h
theorem noCall_bodied (P : Program) : Bodied P fun _ _ _ => none := fun _ _ _ _ h => by cases h

theorem evOp_plain {P : Program} {callF : CallF} {e : Operand → V} {hp : Hp} {op : Op} {out : Out} (h : evPlain P e hp op = some out) : evOp P callF e hp op = some out := by
  unfold evOp
  split
  · simp [evPlain] at h
  · simp [evPlain] at h
  · rw [h]

open Classical in
noncomputable def oneCall (f : FuncId) (vs : List V) (hp : Hp) (r : Ret) : CallF := fun f' vs' hp' => if f' = f ∧ vs' = vs ∧ hp' = hp then some r else none
theorem oneCall_ok {P : Program} {f : FuncId} {vs : List V} {hp : Hp} {r : Ret} (h : FnOK P f vs hp r) : CallOK P (oneCall f vs hp r) := by
  intro f' vs' hp' r' h'
  unfold oneCall at h'
  split at h'
  · rename_i hc; obtain ⟨rfl, rfl, rfl⟩ := hc; cases h'; exact h
  · cases h'
theorem oneCall_bodied {P : Program} {f : FuncId} {vs : List V} {hp : Hp} {r : Ret} (h : bodyB P f = true) : Bodied P (oneCall f vs hp r) := by
  intro f' vs' hp' r' h'
  unfold oneCall at h'
  split at h'
  · rename_i hc; obtain ⟨rfl, rfl, rfl⟩ := hc
    unfold bodyB at h
    split at h
    · rename_i fn hfn; exact ⟨fn, hfn, h⟩
    · cases h
  · cases h'

theorem callT_ok {r i : Nat} {hp : Hp} {f : FuncId} {vs : List V} {k : Out → T α} (h : (callT E r i hp f vs k).WP Q) :
    ∃ callF out, Bodied E.P callF ∧ CallOK E.P callF ∧ evCall callF hp f vs = some out ∧ (k out).WP Q := by
  unfold callT at h
  simp only at h
  split at h
  · rename_i c r1 r2 hr hb
    cases c
    · obtain ⟨⟨h1, _⟩, h2⟩ := h
      refine ⟨_, _, oneCall_bodied (r := r2) hb, oneCall_ok h1, ?_, h2⟩
      unfold evCall oneCall
      simp only [and_self, if_true]
      rfl
    · obtain ⟨⟨h1, _⟩, h2⟩ := h
      refine ⟨_, _, oneCall_bodied (r := r1) hb, oneCall_ok h1, ?_, h2⟩
      unfold evCall oneCall
      simp only [and_self, if_true]
      rfl
  · split at h
    · rename_i β v r hr hb
      obtain ⟨⟨h1, _⟩, h2⟩ := h v rfl
      refine ⟨_, _, oneCall_bodied (r := r v) hb, oneCall_ok h1, ?_, h2⟩
      unfold evCall oneCall
      simp only [and_self, if_true]
      rfl
    · exact h.elim

theorem opT_ok (hn : Named E.P) {r i : Nat} {e : Operand → V} {hp : Hp} {op : Op} {k : Out → T α} (h : (opT E r i e hp op k).WP Q) :
    ∃ out, OpOK E.P e hp op out ∧ (k out).WP Q := by
  have plain : ∀ {out : Out}, evOp E.P (fun _ _ _ => none) e hp op = some out → OpOK E.P e hp op out := fun h => evOp_ok hn (noCall_bodied _) (noCall_ok _) h
  unfold opT at h
  split at h
  · split at h
    · rename_i f args ts g cap hf
      obtain ⟨callF, out, h1, h2, h3, h4⟩ := callT_ok h
      exact ⟨out, evOp_ok hn h1 h2 (by simp only [evOp, hf]; exact h3), h4⟩
    · exact h.elim
  · split at h
    · rename_i x name args ts t v hx
      split at h
      · rename_i t' name' f hm
        obtain ⟨⟨rfl, rfl, hmi, _⟩, h⟩ := h
        obtain ⟨callF, out, h1, h2, h3, h4⟩ := callT_ok h
        exact ⟨out, evOp_ok hn h1 h2 (by simp only [evOp, hx, mtab_eq hmi]; exact h3), h4⟩
      · exact h.elim
    · exact h.elim
  · rename_i hne hne2
    split at h
    · rename_i v t x hv
      split at h
      · rename_i b o hx
        split at h
        · rename_i blk d sz hb hu hs
          split at h
          · exact h.elim
          · rename_i hd
            obtain ⟨⟨h1, _⟩, h2⟩ := h
            refine ⟨_, plain (evOp_plain ?_), h2⟩
            rw [Bool.or_eq_false_iff, Bool.or_eq_false_iff] at hd
            simp only [evPlain, hx, evLoad, hb, hu, hs, hd.1.1, h1, hd.1.2, hd.2, Bool.or_self]
        · exact h.elim
      · exact h.elim
    · rename_i op _ _ _
      have hok := opS_ok (P := E.P) (vw := E.vw) (hp := hp) (e := e) op
      have mfin : ∀ {lk pt}, (match mOp E.P lk pt e hp op with | .one ps o => needs ps (k o) | _ => (.fail : T α)).WP Q → ∃ out, OpOK E.P e hp op out ∧ (k out).WP Q := by
        intro lk pt hh
        split at hh
        · rename_i ps o hd
          obtain ⟨h1, h2⟩ := WP_needs hh
          exact ⟨_, mOp_ok hd h1, h2⟩
        · exact hh.elim
      split at h
      · rename_i l _
        exact mfin (h l.v rfl)
      · rename_i l _
        exact mfin (h l.v rfl)
      split at h
      · rename_i ps o hd
        obtain ⟨h1, h2⟩ := WP_needs h
        exact ⟨_, mOp_ok hd h1, h2⟩
      split at h
      · rename_i ps o hd
        obtain ⟨h1, h2⟩ := WP_needs h
        exact ⟨_, dOp_ok hn hd h1, h2⟩
      split at h
      · rename_i ps o hs
        rw [hs] at hok
        obtain ⟨h1, h2⟩ := WP_needs h
        exact ⟨_, plain (evOp_plain (hok h1)), h2⟩
      · rename_i c ps o qs o' hs
        rw [hs] at hok
        cases c
        · obtain ⟨h1, h2⟩ := WP_needs h
          exact ⟨_, plain (evOp_plain (hok.2 rfl h1)), h2⟩
        · obtain ⟨h1, h2⟩ := WP_needs h
          exact ⟨_, plain (evOp_plain (hok.1 rfl h1)), h2⟩
      · split at h
        · rename_i hp1
          exact ⟨_, plain (evOp_plain hp1), h⟩
        · rename_i hp1
          have hok2 := sMore_ok (P := E.P) (hp := hp) (e := e) op
          split at h
          · rename_i ps o hp2
            rw [hp2] at hok2
            obtain ⟨h1, h2⟩ := WP_needs h
            refine ⟨_, plain ?_, h2⟩
            unfold evOp
            split
            · exact absurd rfl (hne _ _ _)
            · exact absurd rfl (hne2 _ _ _ _)
            · rw [hp1]; exact hok2 h1
          · exact h.elim

theorem stepT_ok (hn : Named E.P) {ops : Array Oper} {r i : Nat} {s : St} {o : Oper} {k : St → List Nat → List Nat → T α} (h : (stepT E ops r i s o k).WP Q) :
    ∃ s' acc wr, StepR E.P ops s o s' acc wr ∧ (k s' acc wr).WP Q := by
  have go : wantedV ops s.tm o = some true → (opT E r i (evalV s.tm) s.hp o.op fun out => forceV out.v fun v => putK s.tm o.dst v fun tm => k ⟨tm, out.hp, forceW out.wr s.wr⟩ out.acc out.wr).WP Q →
      ∃ s' acc wr, StepR E.P ops s o s' acc wr ∧ (k s' acc wr).WP Q := by
    intro hw h
    obtain ⟨out, h3, h4⟩ := opT_ok hn h
    simp only [putK_eq, forceV_eq, forceW_eq] at h4
    exact ⟨_, _, _, .inl ⟨hw, out, h3, rfl, rfl, rfl⟩, h4⟩
  have skip : wantedV ops s.tm o = some false → (putK s.tm o.dst (.lit undef) fun tm => k ⟨tm, s.hp, s.wr⟩ [] []).WP Q →
      ∃ s' acc wr, StepR E.P ops s o s' acc wr ∧ (k s' acc wr).WP Q := by
    intro hw h
    simp only [putK_eq] at h
    exact ⟨_, _, _, .inr ⟨hw, rfl, rfl, rfl⟩, h⟩
  unfold stepT at h
  split at h
  · rename_i hg
    exact go (by simp only [wantedV, hg]) h
  · rename_i j want hg
    split at h
    · rename_i d hd
      split at h
      · rename_i b hb
        split at h
        · cases b
          · simp only [cond_false, knowK_eq hb] at h
            exact skip (by simp [wantedV, hg, hd, hb]) h
          · simp only [cond_true, knowK_eq hb] at h
            exact go (by simp [wantedV, hg, hd, hb]) h
        · cases b
          · simp only [cond_false, knowK_eq hb] at h
            exact go (by simp [wantedV, hg, hd, hb]) h
          · simp only [cond_true, knowK_eq hb] at h
            exact skip (by simp [wantedV, hg, hd, hb]) h
      · rename_i hb
        exact skip (by simp only [wantedV, hg, hd, hb]) h
      · exact h.elim
    · exact h.elim

theorem traceT_ok (hn : Named E.P) {ops : Array Oper} {r : Nat} : ∀ {os : List Oper} {i : Nat} {s : St} {acc : List Rec} {k : List Rec → St → T α}, (traceT E ops r i os s acc k).WP Q →
    ∃ l s2, TraceR E.P ops os s l s2 ∧ (k (acc.reverse ++ l) s2).WP Q
  | [], i, s, acc, k, h => ⟨[], s, .nil s, by simpa [traceT] using h⟩
  | o :: rest, i, s, acc, k, h => by
    unfold traceT at h
    obtain ⟨s', ac, wr, h3, h4⟩ := stepT_ok hn h
    obtain ⟨l, s2, h5, h6⟩ := traceT_ok hn h4
    refine ⟨(s, ac, wr) :: l, s2, .cons h3 h5, ?_⟩
    simpa using h6

theorem codeT_ok (hm : E.P.follows .mixedOrders = true) (hn : Named E.P) {m : Nat} : ∀ {c : Code} {s : St} {k : Ex → St → T α}, (codeT E m c s k).WP Q → ∃ ex s', SoundC E.P m c s ex s' ∧ (k ex s').WP Q
  | .skip, s, k, h => ⟨.normal, s, .skip, h⟩
  | .region id ops draw, s, k, h => by
    unfold codeT at h
    obtain ⟨l, s2, h1, h2⟩ := traceT_ok hn h
    simp only [List.reverse_nil, List.nil_append] at h2
    cases draw with
    | false => exact ⟨.normal, s2, .region hm hn h1 (fun h => by cases h), h2⟩
    | true =>
      simp only at h2
      split at h2
      · rename_i hd
        exact ⟨.normal, s2, .region hm hn h1 (fun _ => hd), h2⟩
      · exact h2.elim
  | .seq x y, s, k, h => by
    unfold codeT at h
    obtain ⟨ex, s', h1, h2⟩ := codeT_ok hm hn h
    cases ex with
    | normal =>
      obtain ⟨ex2, s2, h3, h4⟩ := codeT_ok hm hn h2
      exact ⟨ex2, s2, .seq h1 h3, h4⟩
    | exit i => exact ⟨_, _, .seq_out h1 (by simp), h2⟩
    | ret => exact ⟨_, _, .seq_out h1 (by simp), h2⟩
  | .cond c x y, s, k, h => by
    unfold codeT at h
    split at h
    · rename_i b hb
      have h' : (cond b (codeT E m x s k) (codeT E m y s k)).WP Q := by
        split at h
        · cases b
          · rwa [cond_false, knowK_eq hb] at h
          · rwa [cond_true, knowK_eq hb] at h
        · exact h
      clear h
      cases b
      · obtain ⟨ex, s', h1, h2⟩ := codeT_ok hm hn h'
        exact ⟨ex, s', .cond hb h1, h2⟩
      · obtain ⟨ex, s', h1, h2⟩ := codeT_ok hm hn h'
        exact ⟨ex, s', .cond hb h1, h2⟩
    · exact h.elim
  | .block id body, s, k, h => by
    unfold codeT at h
    split at h
    · replace h := h _ rfl
      simp only at h
      split at h
      · split at h
        · rename_i hp
          obtain ⟨⟨h1, h2, _⟩, h3⟩ := h
          exact ⟨_, _, .block (.pre (h1 ▸ normS_weak hp) h2), h3⟩
        · exact h.elim
      · split at h
        · rename_i hp
          obtain ⟨⟨h1, _⟩, h3⟩ := h
          rcases WP_cond_or h3 with h3 | h3
          · obtain ⟨⟨h2, _⟩, h4⟩ := h3
            exact ⟨_, _, .block (.pre (h1 ▸ normS_weak hp) h2), h4⟩
          · obtain ⟨⟨h2, _⟩, h4⟩ := h3
            exact ⟨_, _, .block (.pre (h1 ▸ normS_weak hp) h2), h4⟩
        · exact h.elim
    · obtain ⟨ex, s', h1, h2⟩ := codeT_ok hm hn h
      exact ⟨_, _, .block h1, h2⟩
  | .exit id, s, k, h => ⟨_, _, .exit, h⟩
  | .ret, s, k, h => ⟨_, _, .ret, h⟩
  | .loop _, _, _, h => h.elim
  | .rangeFunc _ _ _ _, _, _, h => h.elim
  | .scope _, _, _, h => h.elim
  | .label _, _, _, h => h.elim
  | .goto _, _, _, h => h.elim
  | .refuse _, _, _, h => h.elim

theorem fnT_ok (hm : E.P.follows .mixedOrders = true) (hn : Named E.P) {mode : Nat} {f : FuncId} {vs : List V} {hp : Hp} {Q : Ret → Prop} (h : (fnT E mode f vs hp).WP Q) : ∃ r, FnOK E.P f vs hp r ∧ Q r := by
  unfold fnT at h
  split at h
  · rename_i fn hfn
    split at h
    · rename_i c hc
      obtain ⟨ex, s, h1, h2⟩ := codeT_ok hm hn h
      have key : (retT E hp.length mode fn s).WP Q → ex = .normal ∨ ex = .ret → ∃ r, FnOK E.P f vs hp r ∧ Q r := by
        intro h hex
        unfold retT at h
        split at h
        · rename_i v hv
          split at h
          · rename_i hp
            exact ⟨_, fnOK_code hfn hc h1 hex hv (packO_ok _ _ _ _) hp rfl, h⟩
          · exact h.elim
        · exact h.elim
      cases ex with
      | normal => exact key h2 (.inl rfl)
      | ret => exact key h2 (.inr rfl)
      | exit _ => exact h2.elim
    · exact h.elim
  · exact h.elim
theorem fnOK_T (hm : E.P.follows .mixedOrders = true) (hn : Named E.P) {mode : Nat} {f : FuncId} {vs : List V} {hp : Hp} {r : Ret} {t : T Ret} (e : fnT E mode f vs hp = t) (h : t.WP (· = r)) : FnOK E.P f vs hp r := by
  subst e
  obtain ⟨r', h1, rfl⟩ := fnT_ok hm hn h
  exact h1

theorem bodyT_ok (hm : E.P.follows .mixedOrders = true) (hn : Named E.P) {m : Nat} {nf : Ex → Kp} {c : Code} {s : St} {Q : Ex × St → Prop} (h : (bodyT E m nf c s).WP Q) : ∃ ex s', SoundC E.P m c s ex s' ∧ Q (ex, s') := by
  unfold bodyT at h
  obtain ⟨ex, s', h1, h2⟩ := codeT_ok hm hn h
  split at h2
  · rename_i hp
    exact ⟨ex, _, h1.post (normS_weak hp), h2⟩
  · exact h2.elim

def LoopQ (P : Program) (m : Nat) (body : Code) (ex : Ex) (s' : St) : Ex × St → Prop
  | (.normal, s1) => LoopTo P m body s1 ex s'
  | (.exit i, s1) => Ex.exit i = ex ∧ s1 = s'
  | (.ret, s1) => Ex.ret = ex ∧ s1 = s'
theorem loopT (hm : E.P.follows .mixedOrders = true) (hn : Named E.P) {m : Nat} {nf : Ex → Kp} {c : Code} {s s' : St} {ex : Ex} {t : T (Ex × St)} (e : bodyT E m nf c s = t) (h : t.WP (LoopQ E.P m c ex s')) : LoopTo E.P m c s ex s' := by
  subst e
  obtain ⟨ex1, s1, h1, h2⟩ := bodyT_ok hm hn h
  cases ex1 with
  | normal => exact .step h1 h2
  | exit i => obtain ⟨rfl, rfl⟩ := h2; exact .done h1 (by simp)
  | ret => obtain ⟨rfl, rfl⟩ := h2; exact .done h1 (by simp)
theorem soundT (hm : E.P.follows .mixedOrders = true) (hn : Named E.P) {m : Nat} {nf : Ex → Kp} {c : Code} {s s' : St} {ex : Ex} {t : T (Ex × St)} (e : bodyT E m nf c s = t) (h : t.WP (· = (ex, s'))) : SoundC E.P m c s ex s' := by
  subst e
  obtain ⟨ex1, s1, h1, h2⟩ := bodyT_ok hm hn h
  cases h2
  exact h1

end
end Go.Proofs.YtfncaghjfgnnhaaGreatDoor

namespace Go.Proofs.YtfncaghjfgnnhaaGreatDoor
open Go.RowKit

theorem named : Named Tryz.prog := named_of (by kernel_rfl)
theorem follows : Tryz.prog.follows .mixedOrders = true := by kernel_rfl
def mkTm (n : Nat) (l : List (Nat × V)) : Tm := l.foldl (fun t p => t.put p.1 p.2) ⟨n, Tr.mk0 11⟩

structure Lay {α : Type} (enc : α → List V) (s : Nat) : Prop where
  pos : 0 < s
  len : ∀ x, (enc x).length = s
  inj1 : ∀ x y, enc x = enc y → x = y
  one : ∀ x, (enc x).all V.one = true

section
variable {α : Type} {enc : α → List V} {s : Nat}

theorem encs_nil : encs enc [] = [] := rfl
theorem encs_cons (x : α) (L : List α) : encs enc (x :: L) = enc x ++ encs enc L := rfl
theorem encs_append (L M : List α) : encs enc (L ++ M) = encs enc L ++ encs enc M := by simp [encs]
theorem encs_one (x : α) : encs enc [x] = enc x := by simp [encs]
theorem encs_snoc (L : List α) (x : α) : encs enc (L ++ [x]) = encs enc L ++ enc x := by rw [encs_append, encs_one]

theorem Lay.inj (h : Lay enc s) : ∀ L M : List α, encs enc L = encs enc M → L = M := by
  intro L
  induction L with
  | nil =>
    intro M hM
    cases M with
    | nil => rfl
    | cons y M =>
      have h1 := h.len y
      have h2 := h.pos
      rw [encs_nil, encs_cons] at hM
      have := congrArg List.length hM
      rw [List.length_append] at this
      rw [h1, List.length_nil] at this; omega
  | cons x L ih =>
    intro M hM
    cases M with
    | nil =>
      have h1 := h.len x
      have h2 := h.pos
      rw [encs_nil, encs_cons] at hM
      have := congrArg List.length hM
      rw [List.length_append] at this
      rw [h1, List.length_nil] at this; omega
    | cons y M =>
      rw [encs_cons, encs_cons] at hM
      obtain ⟨e1, e2⟩ := List.append_inj hM (by rw [h.len, h.len])
      rw [h.inj1 _ _ e1, ih M e2]
theorem Lay.decL (h : Lay enc s) (L : List α) : decL enc (encs enc L) = L := by
  have he : ∃ M, encs enc M = encs enc L := ⟨L, rfl⟩
  unfold Go.Proofs.YtfncaghjfgnnhaaGreatDoor.decL
  rw [dif_pos he]
  exact h.inj _ _ he.choose_spec
theorem Lay.length (h : Lay enc s) (L : List α) : (encs enc L).length = L.length * s := by
  induction L with
  | nil => simp [encs]
  | cons x L ih => rw [encs_cons, List.length_append, h.len, ih, List.length_cons, Nat.add_mul, Nat.one_mul, Nat.add_comm]
theorem Lay.all (h : Lay enc s) (L : List α) : (encs enc L).all V.one = true := by
  induction L with
  | nil => rfl
  | cons x L ih => rw [encs_cons, List.all_append, h.one, ih]; rfl
theorem Lay.hasO (h : Lay enc s) (L : List α) : hasO (encs enc L) = false := by
  have := h.all L
  unfold Go.Proofs.YtfncaghjfgnnhaaGreatDoor.hasO
  rw [List.any_eq_false]
  intro x hx
  have h1 := List.all_eq_true.1 this x hx
  cases x <;> first | (simp; done) | (simp [V.one] at h1; done)
theorem Lay.drop (h : Lay enc s) : ∀ (L : List α) (i : Nat), (encs enc L).drop (i * s) = encs enc (L.drop i)
  | L, 0 => by simp
  | [], i + 1 => by simp [encs]
  | x :: L, i + 1 => by
    rw [encs_cons, List.drop_succ_cons, ← h.drop L i, Nat.succ_mul, Nat.add_comm, ← List.drop_drop, List.drop_left' (h.len x)]
theorem Lay.take (h : Lay enc s) : ∀ (L : List α) (i : Nat), (encs enc L).take (i * s) = encs enc (L.take i)
  | L, 0 => by simp [encs]
  | [], i + 1 => by simp [encs]
  | x :: L, i + 1 => by
    rw [encs_cons, List.take_succ_cons, encs_cons, ← h.take L i, Nat.succ_mul, Nat.add_comm, List.take_append, h.len]
    rw [List.take_of_length_le (by rw [h.len]; omega), Nat.add_sub_cancel_left]
theorem Lay.at (h : Lay enc s) (L : List α) (d : α) (i k : Nat) (hi : i < L.length) (hk : k = s) : ((encs enc L).drop (i * s)).take k = enc (L.getD i d) := by
  subst hk
  rw [h.drop, List.drop_eq_getElem_cons hi, encs_cons, List.take_left' (h.len _), List.getD_eq_getElem?_getD, List.getElem?_eq_getElem hi]
  rfl
theorem Lay.at' (h : Lay enc s) (L : List α) (d : α) (k : Int) (n : Nat) (hk : 0 ≤ k ∧ k < L.length) (hn : n = s) : ((encs enc L).drop (k.toNat * s)).take n = enc (L.getD k.toNat d) := h.at L d k.toNat n (by omega) hn
theorem getD_nat (L : List α) (d : α) (k : Nat) : L.getD ((k : Int).toNat) d = L.getD k d := by rw [Int.toNat_natCast]
end

theorem layByte : Lay encByte 1 :=
  ⟨by omega, fun _ => rfl, fun x y h => by simp only [encByte, List.cons.injEq, V.int.injEq, true_and, and_true] at h; exact UInt8.toNat_inj.1 (by omega), fun _ => rfl⟩
theorem byts_encs (l : List UInt8) : byts l = encs encByte l := by
  induction l with
  | nil => rfl
  | cons b l ih => rw [encs_cons, ← ih]; rfl
theorem map_encs (l : List UInt8) : (l.map fun b => V.int .u8 (b.toNat : Nat)) = encs encByte l := byts_encs l
def encStr (s : List UInt8) : List V := [.str s]
theorem layStr : Lay encStr 1 := ⟨by omega, fun _ => rfl, fun x y h => by simpa [encStr] using h, fun _ => rfl⟩
def encInt (n : Int) : List V := [.int .i64 n]
theorem layInt : Lay encInt 1 := ⟨by omega, fun _ => rfl, fun x y h => by simpa [encInt] using h, fun _ => rfl⟩
abbrev sls {α : Type} (enc : α → List V) (L : List α) : V := .dsl L.length false (encs enc L)

theorem wrap_id {n : Int} (h : -9223372036854775808 ≤ n ∧ n ≤ 9223372036854775807) : IntKind.i64.wrap n = n := IntWalk.i64_in _ (by omega)
theorem wrap_nat {n : Nat} (h : n ≤ 9223372036854775807) : IntKind.i64.wrap (n : Int) = n := IntWalk.i64_in _ (by omega)
theorem wrap_succ {n : Nat} (h : n < 9223372036854775807) : IntKind.i64.wrap ((n : Int) + 1) = ((n + 1 : Nat) : Int) := by rw [IntWalk.i64_in _ (by omega)]; simp

end Go.Proofs.YtfncaghjfgnnhaaGreatDoor

namespace Go.Proofs.YtfncaghjfgnnhaaGreatDoor
open Go.RowKit

section
variable {P : Program}

theorem set_at {hp : Hp} {b : Nat} {X Y : Blk} (hb : hp[b]? = some (some X)) {k : Nat} {blk : Blk} (h : (hp.set b (some Y))[k]? = some (some blk)) : (k = b ∧ blk = Y) ∨ (k ≠ b ∧ hp[k]? = some (some blk)) := by
  rw [List.getElem?_set] at h
  split at h
  · rename_i e
    split at h
    · cases h; exact .inl ⟨e.symm, rfl⟩
    · cases h
  · rename_i e; exact .inr ⟨fun x => e x.symm, h⟩
theorem set_back {hp : Hp} {b : Nat} {X Y : Blk} (hb : hp[b]? = some (some X)) {k : Nat} {blk : Blk} (h : (hp.set b (some Y))[k]? = some (some blk)) : ∃ blk0, hp[k]? = some (some blk0) := by
  rcases set_at hb h with ⟨rfl, _⟩ | ⟨_, h⟩
  · exact ⟨_, hb⟩
  · exact ⟨_, h⟩
theorem set_fwd {hp : Hp} {b : Nat} {X Y : Blk} (hb : hp[b]? = some (some X)) {k : Nat} {blk : Blk} (h : hp[k]? = some (some blk)) : ∃ blk0, (hp.set b (some Y))[k]? = some (some blk0) := by
  rw [List.getElem?_set]
  split
  · rename_i e
    rw [if_pos (by subst e; exact at_lt hb)]
    exact ⟨_, rfl⟩
  · exact ⟨_, h⟩
theorem set_none {hp : Hp} {b : Nat} {X Y : Blk} (hb : hp[b]? = some (some X)) {k : Nat} (h : hp[k]? = some none) : (hp.set b (some Y))[k]? = some none := by
  rw [List.getElem?_set, if_neg (by rintro rfl; rw [hb] at h; cases h)]
  exact h

theorem CR.unsl {I : Nat → Prop} {μ : Mu} {w : World} : ∀ {l : List V} {vs : List Value}, hasO l = false → V.RL P I noMu w (flat l) vs → CR P I μ w [] l vs
  | [], vs, _, h => by
    simp only [flat, V.RL] at h
    exact CR.nil_iff.2 ⟨rfl, h⟩
  | x :: t, vs, ho, h => by
    unfold hasO at ho
    rw [List.any_cons, Bool.or_eq_false_iff] at ho
    rcases seal_or x with ⟨o, c, rfl⟩ | hx
    · rw [flat_sealO] at h
      have hl := h.length
      rw [List.length_append] at hl
      have ho' : o = false := by cases o <;> first | rfl | simp [mkS] at ho
      subst ho'
      refine CR.sealO_iff.2 ⟨vs.take c.length, vs.drop c.length, [], [], by simp, rfl, ⟨rfl, ?_⟩, CR.unsl ho.2 ?_⟩
      · have := h.take c.length
        rwa [List.take_left] at this
      · have := h.drop c.length
        rwa [List.drop_left] at this
    · rw [flat_cons hx] at h
      simp only [V.RL] at h
      obtain ⟨u, us, rfl, h1, h2⟩ := h
      exact (CR.cons_iff hx).2 ⟨u, us, [], [], rfl, rfl, OX_ofR (R_up h1), CR.unsl ho.2 h2⟩
theorem Holds.unsl {I : Nat → Prop} {μ : Mu} {w : World} {b : Nat} {c : List V} {T : TypeId} (hT : rowT T = true) (ho : hasO c = false) (h : Holds P I μ w b ([.sld (flat c)], T)) : Holds P I μ w b (c, T) := by
  rcases h with ⟨g, cs, fr, k1, k2, k3, k4, ⟨k5, k6⟩, k7, k8⟩ | h
  · simp only [flat_sealed] at k5 k6
    obtain ⟨us, vs', e, h1, h2⟩ := CR.seal_iff.1 k6
    obtain ⟨hF, rfl⟩ := CR.nil_iff.1 h2
    rw [List.append_nil] at e
    refine .inl ⟨g, cs, fr, k1, k2, k3, k4, ⟨k5, ?_⟩, k7, k8⟩
    rw [hF, e]
    exact CR.unsl ho h1
  · rcases h with h | ⟨_, _, _, _, _, _, _, e, _⟩
    · exact .inr (.inl h)
    · have e2 := congrArg Prod.snd e
      simp only at e2
      subst e2; simp [rowT, mapTid] at hT
theorem Holds.toSeal {I : Nat → Prop} {μ : Mu} {w : World} {b : Nat} {c : List V} {T : TypeId} (hT : rowT T = true) (ho : hasO c = false) (h : Holds P I μ w b (c, T)) (hr : V.refsL c = []) : Holds P I μ w b ([.sld (flat c)], T) := by
  rcases h with ⟨g, cs, fr, k1, k2, k3, k4, ⟨k5, k6⟩, k7, k8⟩ | h
  · refine .inl ⟨g, cs, fr, k1, k2, k3, k4, ⟨by simpa only [flat_sealed] using k5, ?_⟩, k7, k8⟩
    simp only [flat_sealed]
    obtain ⟨hF, h1⟩ := k6.nomuL hr ho
    rw [hF]
    exact CR.sealed h1
  · rcases h with h | ⟨_, _, _, _, _, _, _, e, _⟩
    · exact .inr (.inl h)
    · have e2 := congrArg Prod.snd e
      simp only at e2
      subst e2; simp [rowT, mapTid] at hT

theorem FnOK.unsl {f : FuncId} {vs : List V} {hp : Hp} {r : Ret} {b : Nat} {c : List V} {T : TypeId} (ho : hasO c = false) (h : FnOK P f vs hp r) (hb : hp[b]? = some (some ([.sld (flat c)], T))) (hr : V.refsL c = []) (hw : b ∉ r.wr) (hT : rowT T = true := by rfl) :
    FnOK P f vs (hp.set b (some (c, T))) ⟨r.v, r.hp.set b (some (c, T)), r.wr⟩ := by
  obtain ⟨ht, hmain⟩ := h
  have hbl := at_lt hb
  have hrb : r.hp[b]? = some (some ([.sld (flat c)], T)) := by rw [ht.frame b hbl hw]; exact hb
  constructor
  · refine ⟨by simpa using ht.len, fun k hk hn => ?_, fun k hk => by simpa using ht.wrb k hk, fun k hk ⟨blk, hal⟩ => ?_⟩
    · simp only [List.length_set] at hk
      show (r.hp.set b _)[k]? = _
      rw [List.getElem?_set, List.getElem?_set]
      split
      · simp [at_lt hrb, hbl]
      · exact ht.frame k hk hn
    · simp only [List.length_set] at hk
      obtain ⟨blk0, h0⟩ := set_back hrb hal
      obtain ⟨blk1, h1⟩ := ht.alive k hk ⟨blk0, h0⟩
      exact set_fwd hb h1
  · intro I w μ vals hvals pre hdom
    simp only [List.length_set] at pre hdom
    have pre' : Pre P I μ w hp (List.range hp.length) r.hp.length := by
      refine ⟨pre.ilt, fun k hk blk hkb => ?_, fun k hk j hj b1 b2 g hne h1 h2 g1 g2 => ?_, fun k h1 h2 => pre.fresh k (by simpa using h1) h2⟩
      · by_cases e : k = b
        · subst e
          rw [hb] at hkb; cases hkb
          exact (pre.holds k hk (c, T) (by rw [List.getElem?_set, if_pos rfl, if_pos hbl])).toSeal hT ho hr
        · exact pre.holds k hk blk (by rw [List.getElem?_set, if_neg (fun x => e x.symm)]; exact hkb)
      · obtain ⟨_, k1⟩ := set_fwd (Y := (c, T)) hb h1
        obtain ⟨_, k2⟩ := set_fwd (Y := (c, T)) hb h2
        exact pre.inj k hk j hj _ _ g hne k1 k2 g1 g2
    refine (hmain I w μ vals hvals pre' hdom).mono fun e w' ⟨val, μ', I', he, hR, G⟩ => ⟨val, μ', I', he, hR, ?_⟩
    refine ⟨G.isub, fun k hk => ?_, G.evo, G.le, fun k g hg => by simpa using G.dom k g hg, fun k hk hn => G.ftd k hk (by simpa using hn), fun k hk blk hkb => ?_, fun k hk blk hkb g hg => ?_, fun k j b1 b2 g hne hk hj h1 h2 g1 g2 => ?_⟩
    · rcases G.igrow k hk with h | h | ⟨d, h1, h2, ⟨blk, h3⟩⟩
      · exact .inl h
      · exact .inr (.inl h)
      · exact .inr (.inr ⟨d, h1, h2, set_fwd hb h3⟩)
    · simp only [List.length_set] at hk
      rcases set_at hrb hkb with ⟨rfl, rfl⟩ | ⟨_, hkb⟩
      · exact (G.holds k hk _ hrb).unsl hT ho
      · exact G.holds k hk blk hkb
    · simp only [List.length_set] at hk
      obtain ⟨blk0, k1⟩ := set_back hrb hkb
      rcases G.prov k hk blk0 k1 g hg with h | ⟨d, h1, h2, ⟨blk, h3⟩⟩
      · exact .inl h
      · exact .inr ⟨d, h1, h2, set_fwd hb h3⟩
    · simp only [List.length_set] at hk hj
      obtain ⟨_, k1⟩ := set_back hrb h1
      obtain ⟨_, k2⟩ := set_back hrb h2
      exact G.inj k j _ _ g hne hk hj k1 k2 g1 g2

theorem FnOK.more {f : FuncId} {vs : List V} {hp : Hp} {r : Ret} {wr : List Nat} (h : FnOK P f vs hp r) (h1 : ∀ b ∈ r.wr, b ∈ wr) (h2 : ∀ b ∈ wr, b < hp.length) : FnOK P f vs hp ⟨r.v, r.hp, wr⟩ := by
  obtain ⟨ht, hmain⟩ := h
  refine ⟨⟨ht.len, fun b hb hn => ht.frame b hb fun h => hn (h1 b h), h2, ht.alive⟩, fun I w μ vals hvals pre hdom => (hmain I w μ vals hvals pre hdom).mono fun e w' ⟨val, μ', I', he, hR, G⟩ => ⟨val, μ', I', he, hR, ?_⟩⟩
  refine ⟨G.isub, fun k hk => ?_, G.evo.mono fun k ⟨b, hb, hg⟩ => ⟨b, h1 b hb, hg⟩, G.le, G.dom, fun b hb hn => G.ftd b (fun h => hb (h1 b h)) hn, G.holds, fun k hk blk hkb g hg => ?_, G.inj⟩
  · rcases G.igrow k hk with h | h | ⟨d, k1, k2⟩
    · exact .inl h
    · exact .inr (.inl h)
    · exact .inr (.inr ⟨d, h1 d k1, k2⟩)
  · by_cases hc : hp.length ≤ k ∨ k ∈ r.wr
    · rcases G.prov k hc blk hkb g hg with h | ⟨d, k1, k2⟩
      · exact .inl h
      · exact .inr ⟨d, h1 d k1, k2⟩
    · simp only [not_or, Nat.not_le] at hc
      have hk' : k ∈ wr := hk.resolve_left (by omega)
      refine .inr ⟨k, hk', ?_, blk, by rw [← ht.frame k hc.1 hc.2]; exact hkb⟩
      rcases hg with hg | hg
      · rcases G.dom k g hg with h | ⟨h, _⟩
        · exact .inl h
        · omega
      · rw [G.ftd k hc.2 (by omega)] at hg; exact .inr hg

def RetLe (r' r : Ret) : Prop := r'.v = r.v ∧ r'.hp = r.hp ∧ ∀ b ∈ r'.wr, b ∈ r.wr
theorem fnOK_TL {E : Env} (hm : E.P.follows .mixedOrders = true) (hn : Named E.P) {mode : Nat} {f : FuncId} {vs : List V} {hp : Hp} {r : Ret} {t : T Ret} (e : fnT E mode f vs hp = t) (hw : ∀ b ∈ r.wr, b < hp.length) (h : t.WP (RetLe · r)) : FnOK E.P f vs hp r := by
  subst e
  obtain ⟨r', h1, h2, h3, h4⟩ := fnT_ok hm hn h
  have := h1.more h4 hw
  rw [h2, h3] at this
  exact this

end
end Go.Proofs.YtfncaghjfgnnhaaGreatDoor

namespace Go.Proofs.YtfncaghjfgnnhaaGreatDoor
open Go.RowKit

def runN {α β : Type} (step : Nat → α → α ⊕ β) : Nat → Nat → α → α ⊕ β
  | 0, _, a => .inl a
  | k + 1, i, a => match step i a with
    | .inl a' => runN step k (i + 1) a'
    | .inr b => .inr b
def foldN {α : Type} (step : Nat → α → α) : Nat → Nat → α → α
  | 0, _, a => a
  | k + 1, i, a => foldN step k (i + 1) (step i a)
def allN (good : Nat → Bool) : Nat → Nat → Bool
  | 0, _ => true
  | k + 1, i => good i && allN good k (i + 1)
theorem allN_iff (good : Nat → Bool) : ∀ k i, allN good k i = true ↔ ∀ j, i ≤ j → j < i + k → good j = true
  | 0, i => by simp [allN]; intro j h1 h2; omega
  | k + 1, i => by
    rw [allN, Bool.and_eq_true, allN_iff good k (i + 1)]
    constructor
    · rintro ⟨h1, h2⟩ j h3 h4
      rcases Nat.lt_or_ge i j with h | h
      · exact h2 j (by omega) (by omega)
      · obtain rfl : j = i := by omega
        exact h1
    · intro h
      exact ⟨h i (Nat.le_refl _) (by omega), fun j h1 h2 => h j (by omega) (by omega)⟩
theorem allN_list {α : Type} (p : α → Bool) (d : α) (L : List α) : allN (fun i => p (L.getD i d)) L.length 0 = L.all p := by
  rw [Bool.eq_iff_iff, allN_iff, List.all_eq_true]
  constructor
  · intro h x hx
    obtain ⟨j, hj, rfl⟩ := List.getElem_of_mem hx
    have := h j (by omega) (by omega)
    rwa [List.getD_eq_getElem?_getD, List.getElem?_eq_getElem hj] at this
  · intro h j _ hj
    rw [List.getD_eq_getElem?_getD, List.getElem?_eq_getElem (by omega)]
    exact h _ (List.getElem_mem _)

section
variable {E : Env} {m : Nat} {nf : Ex → Kp} {c : Code}

def RoundQ {α β : Type} (st : Nat → α → St) (inv : Nat → α → Prop) (ex' : Ex) (sr : β → St) (i : Nat) (s : α ⊕ β) (x : Ex × St) : Prop := match s with
  | .inl a' => x = (.normal, st (i + 1) a') ∧ inv (i + 1) a'
  | .inr b => x = (ex', sr b)
theorem T.WP.mono {α : Type} {Q R : α → Prop} (h : ∀ a, Q a → R a) : ∀ {t : T α}, t.WP Q → t.WP R
  | .done a, k => h a k
  | .need _ t, k => ⟨k.1, T.WP.mono h k.2⟩
  | .bind _ _, k => fun y hy => T.WP.mono h (k y hy)
  | .fail, k => k
theorem T.WP.const {α : Type} {Q : α → Prop} {p : Prop} : ∀ {t : T α}, t.WP (fun a => Q a ∧ p) → p
  | .done _, k => k.2
  | .need _ _, k => T.WP.const k.2
  | .bind v _, k => T.WP.const (k v rfl)
  | .fail, k => k.elim
theorem roundsT {α β : Type} {st : Nat → α → St} {n : Nat} (inv : Nat → α → Prop) (step : Nat → α → α ⊕ β) {t : Nat → α → T (Ex × St)} {ex ex' : Ex} {sx : α → St} {sr : β → St}
    (hm : E.P.follows .mixedOrders = true) (hn : Named E.P) (hx : ex ≠ .normal) (hx' : ex' ≠ .normal) (e : ∀ i a, bodyT E m nf c (st i a) = t i a)
    (h : ∀ i a, i < n → inv i a → (t i a).WP (RoundQ st inv ex' sr i (step i a)))
    (he : ∀ a, inv n a → (t n a).WP (· = (ex, sx a))) : ∀ (k i : Nat) (a : α), i + k = n → inv i a →
      match runN step k i a with
      | .inl a' => LoopTo E.P m c (st i a) ex (sx a') ∧ inv n a'
      | .inr b => LoopTo E.P m c (st i a) ex' (sr b)
  | 0, i, a, hi, ha => by
    obtain rfl : i = n := by omega
    exact ⟨.done (soundT hm hn (e i a) (he a ha)) hx, ha⟩
  | k + 1, i, a, hi, ha => by
    have h1 := h i a (by omega) ha
    unfold runN
    cases hs : step i a with
    | inl a' =>
      rw [hs] at h1
      have ih := roundsT inv step hm hn hx hx' e h he k (i + 1) a' (by omega) h1.const
      have hb := soundT hm hn (e i a) (h1.mono fun _ h => h.1)
      simp only
      cases hr : runN step k (i + 1) a' with
      | inl a2 => rw [hr] at ih; exact ⟨.step hb ih.1, ih.2⟩
      | inr b => rw [hr] at ih; exact .step hb ih
    | inr b =>
      rw [hs] at h1
      exact .done (soundT hm hn (e i a) h1) hx'

theorem foldT {α : Type} {st : Nat → α → St} {n : Nat} (inv : Nat → α → Prop) (step : Nat → α → α) {t : Nat → α → T (Ex × St)} {ex : Ex} {sx : α → St}
    (hm : E.P.follows .mixedOrders = true) (hn : Named E.P) (hx : ex ≠ .normal) (e : ∀ i a, bodyT E m nf c (st i a) = t i a)
    (h : ∀ i a, i < n → inv i a → (t i a).WP (· = (.normal, st (i + 1) (step i a))) ∧ inv (i + 1) (step i a))
    (he : ∀ a, inv n a → (t n a).WP (· = (ex, sx a))) : ∀ (k i : Nat) (a : α), i + k = n → inv i a → LoopTo E.P m c (st i a) ex (sx (foldN step k i a)) ∧ inv n (foldN step k i a)
  | 0, i, a, hi, ha => by
    obtain rfl : i = n := by omega
    exact ⟨.done (soundT hm hn (e i a) (he a ha)) hx, ha⟩
  | k + 1, i, a, hi, ha => by
    have h1 := h i a (by omega) ha
    have ih := foldT inv step hm hn hx e h he k (i + 1) (step i a) (by omega) h1.2
    exact ⟨.step (soundT hm hn (e i a) h1.1) ih.1, ih.2⟩

theorem scanT {st : Nat → St} {n : Nat} (good : Nat → Bool) {t : Nat → T (Ex × St)} {ex ex' : Ex} {sx sr : St}
    (hm : E.P.follows .mixedOrders = true) (hn : Named E.P) (hx : ex ≠ .normal) (hx' : ex' ≠ .normal) (e : ∀ i, bodyT E m nf c (st i) = t i)
    (h : ∀ i, i < n → (t i).WP (· = bif good i then (.normal, st (i + 1)) else (ex', sr)))
    (he : (t n).WP (· = (ex, sx))) : ∀ (k i : Nat), i + k = n → (allN good k i = true → LoopTo E.P m c (st i) ex sx) ∧ (allN good k i = false → LoopTo E.P m c (st i) ex' sr)
  | 0, i, hi => by
    obtain rfl : i = n := by omega
    exact ⟨fun _ => .done (soundT hm hn (e i) he) hx, fun h => by simp [allN] at h⟩
  | k + 1, i, hi => by
    have h1 := h i (by omega)
    have ih := scanT good hm hn hx hx' e h he k (i + 1) (by omega)
    unfold allN
    cases hg : good i with
    | true =>
      rw [hg] at h1
      have hb := soundT hm hn (e i) h1
      rw [Bool.true_and]
      exact ⟨fun h => .step hb (ih.1 h), fun h => .step hb (ih.2 h)⟩
    | false =>
      rw [hg] at h1
      refine ⟨fun h => by simp at h, fun _ => .done (soundT hm hn (e i) h1) hx'⟩
end
end Go.Proofs.YtfncaghjfgnnhaaGreatDoor

namespace Go.Proofs.YtfncaghjfgnnhaaGreatDoor
open Go.RowKit
set_option maxRecDepth 100000

inductive J where
  | mk (kind n : Int) (t : List UInt8) (keys : List (List UInt8)) (items : List J)
namespace J
def kind : J → Int | mk k _ _ _ _ => k
def n : J → Int | mk _ n _ _ _ => n
def t : J → List UInt8 | mk _ _ t _ _ => t
def keys : J → List (List UInt8) | mk _ _ _ ks _ => ks
def items : J → List J | mk _ _ _ _ its => its
theorem eta (j : J) : mk j.kind j.n j.t j.keys j.items = j := by cases j; rfl
end J
def J.zero : J := .mk 0 0 [] [] []
instance : Inhabited J := ⟨.zero⟩

mutual
def encJ : J → List V
  | .mk k n t ks its => [.int .i64 k, .int .i64 n, .str t, .dsl ks.length false (encs encStr ks), .dsl its.length false (encJs its)]
def encJs : List J → List V
  | [] => []
  | j :: js => encJ j ++ encJs js
end
theorem encJs_encs : ∀ js : List J, encJs js = encs encJ js
  | [] => by simp only [encJs]; rfl
  | j :: js => by simp only [encJs, encs_cons, encJs_encs js]
def vwJ (j : J) : List V := [.int .i64 j.kind, .int .i64 j.n, .str j.t, sls encStr j.keys, sls encJ j.items]
theorem encJ_vw (j : J) : encJ j = vwJ j := by
  cases j
  simp only [encJ, vwJ, J.kind, J.n, J.t, J.keys, J.items, sls, encJs_encs]
theorem encJ_len (j : J) : (encJ j).length = 5 := by rw [encJ_vw]; rfl

mutual
theorem encJ_inj : ∀ x y : J, encJ x = encJ y → x = y
  | .mk k n t ks its, .mk k' n' t' ks' its', h => by
    simp only [encJ, List.cons.injEq, V.int.injEq, V.str.injEq, V.dsl.injEq, true_and, and_true] at h
    obtain ⟨h1, h2, h3, ⟨_, h4⟩, _, h5⟩ := h
    rw [h1, h2, h3, layStr.inj _ _ h4, encJs_inj its its' h5]
theorem encJs_inj : ∀ xs ys : List J, encJs xs = encJs ys → xs = ys
  | [], [], _ => rfl
  | [], y :: ys, h => by
    simp only [encJs] at h
    have h1 := congrArg List.length h
    have h2 := encJ_len y
    rw [List.length_append, List.length_nil] at h1; omega
  | x :: xs, [], h => by
    simp only [encJs] at h
    have h1 := congrArg List.length h
    have h2 := encJ_len x
    rw [List.length_append, List.length_nil] at h1; omega
  | x :: xs, y :: ys, h => by
    simp only [encJs] at h
    obtain ⟨e1, e2⟩ := List.append_inj h (by rw [encJ_len, encJ_len])
    rw [encJ_inj x y e1, encJs_inj xs ys e2]
end
theorem layJ : Lay encJ 5 := ⟨by omega, encJ_len, encJ_inj, fun j => by rw [encJ_vw]; rfl⟩

abbrev tJ : Nat := 25
noncomputable def vwA : Vw := fun t cs i =>
  bif Nat.beq t 5 then some (encByte ((decL encByte cs).getD i 0))
  else bif Nat.beq t 9 then some (encStr ((decL encStr cs).getD i []))
  else bif Nat.beq t 3 then some (encInt ((decL encInt cs).getD i 0))
  else bif Nat.beq t tJ then some (vwJ ((decL encJ cs).getD i J.zero))
  else none
theorem vwJ_at (L : List J) (k : Int) (hk : 0 ≤ k ∧ k < L.length) : ((encs encJ L).drop (k.toNat * 5)).take 5 = vwJ (L.getD k.toNat J.zero) := by
  rw [← encJ_vw]; exact layJ.at' L J.zero k 5 hk rfl
noncomputable def jOf (k n : Int) (t : List UInt8) (ks its : List V) : J := .mk k n t (decL encStr ks) (decL encJ its)
theorem jOf_vw (j : J) : jOf j.kind j.n j.t (encs encStr j.keys) (encs encJ j.items) = j := by
  unfold jOf; rw [layStr.decL, layJ.decL, J.eta]

end Go.Proofs.YtfncaghjfgnnhaaGreatDoor

namespace Go.Proofs.YtfncaghjfgnnhaaGreatDoor
open Go.RowKit
set_option maxRecDepth 100000

def res0 : ResT := fun _ _ _ => none
def ResT.or (a b : ResT) : ResT := fun f vs hp => match a f vs hp with
  | some r => some r
  | none => b f vs hp
noncomputable def E0 : Env := { P := Tryz.prog, vw := vwA, res := res0 }
abbrev fByte : Nat := 80
abbrev tSrc : Nat := 67

structure Src where
  l : List UInt8
  k : Nat
  s : Int
structure Src.OK (x : Src) (c : Nat) : Prop where
  hl : x.l.length ≤ 1048576
  hk : x.k + c ≤ 1099511627776
  h0 : 0 ≤ x.s
  h1 : x.s < 2147483648
def srcB (x : Src) : Option Blk := some ([sls encByte x.l, .int .i64 x.k, .int .i64 x.s], tSrc)

def byteF (x : Src) : Int × Src :=
  if x.k + 1 ≤ x.l.length then ((x.l.getD x.k 0).toNat, ⟨x.l, x.k + 1, (x.s * 31 + (x.l.getD x.k 0).toNat + 7).tmod 2147483648⟩)
  else if 3000 < x.k + 1 then (0, ⟨x.l, x.k + 1, x.s⟩)
  else ((((x.s * 1103515245 + 12345).tmod 2147483648).tdiv 65536).tmod 256, ⟨x.l, x.k + 1, (x.s * 1103515245 + 12345).tmod 2147483648⟩)

theorem tmod_bd (a : Int) (h : 0 ≤ a) : 0 ≤ a.tmod 2147483648 ∧ a.tmod 2147483648 < 2147483648 := ⟨Int.tmod_nonneg _ h, Int.tmod_lt_of_pos _ (by omega)⟩

theorem byteF_ok {x : Src} {c : Nat} (h : x.OK (c + 1)) : (byteF x).2.OK c ∧ 0 ≤ (byteF x).1 ∧ (byteF x).1 < 256 := by
  obtain ⟨hl, hk, h0, h1⟩ := h
  unfold byteF
  split
  · have hb := (x.l.getD x.k 0).toNat_lt
    exact ⟨⟨hl, by simp only; omega, (tmod_bd _ (by omega)).1, (tmod_bd _ (by omega)).2⟩, by simp only; omega, by simp only; omega⟩
  · split
    · exact ⟨⟨hl, by simp only; omega, h0, h1⟩, by simp, by simp⟩
    · have hb := tmod_bd (x.s * 1103515245 + 12345) (by omega)
      have hq := Int.tdiv_nonneg hb.1 (show (0 : Int) ≤ 65536 by omega)
      exact ⟨⟨hl, by simp only; omega, hb.1, hb.2⟩, Int.tmod_nonneg _ hq, Int.tmod_lt_of_pos _ (by omega)⟩

set_option maxRecDepth 100000 in
theorem byteT (x : Src) : fnT E0 0 fByte [.ptr 0 0] [srcB x] =
 bif decide (IntKind.wrap IntKind.i64 ((↑(Src.k x) : Int) + (1 : Int)) ≤ (↑(List.length (Src.l x)) : Int)) then
 T.need
 [(0 : Int) ≤ IntKind.wrap IntKind.i64 (IntKind.wrap IntKind.i64 ((↑(Src.k x) : Int) + (1 : Int)) - (1 : Int)) ∧
 IntKind.wrap IntKind.i64 (IntKind.wrap IntKind.i64 ((↑(Src.k x) : Int) + (1 : Int)) - (1 : Int)) < (↑(List.length (Src.l x)) : Int),
 List.take 1 (List.drop (Int.toNat (IntKind.wrap IntKind.i64 (IntKind.wrap IntKind.i64 ((↑(Src.k x) : Int) + (1 : Int)) - (1 : Int))) * 1) (encs encByte (Src.l x))) =
 [V.int IntKind.u8
 (↑(UInt8.toNat (List.getD (decL encByte (encs encByte (Src.l x))) (Int.toNat (IntKind.wrap IntKind.i64 (IntKind.wrap IntKind.i64 ((↑(Src.k x) : Int) + (1 : Int)) - (1 : Int)))) (0 : UInt8))) : Int)]]
 (T.need [(2147483648 : Int) ≠ (0 : Int)]
 (T.need
 [(0 : Int) ≤ IntKind.wrap IntKind.i64 (IntKind.wrap IntKind.i64 ((↑(Src.k x) : Int) + (1 : Int)) - (1 : Int)) ∧
 IntKind.wrap IntKind.i64 (IntKind.wrap IntKind.i64 ((↑(Src.k x) : Int) + (1 : Int)) - (1 : Int)) < (↑(List.length (Src.l x)) : Int),
 List.take 1 (List.drop (Int.toNat (IntKind.wrap IntKind.i64 (IntKind.wrap IntKind.i64 ((↑(Src.k x) : Int) + (1 : Int)) - (1 : Int))) * 1) (encs encByte (Src.l x))) =
 [V.int IntKind.u8
 (↑(UInt8.toNat (List.getD (decL encByte (encs encByte (Src.l x))) (Int.toNat (IntKind.wrap IntKind.i64 (IntKind.wrap IntKind.i64 ((↑(Src.k x) : Int) + (1 : Int)) - (1 : Int)))) (0 : UInt8))) : Int)]]
 (T.done
 (Ret.mk
 (V.int IntKind.i64
 (IntKind.wrap IntKind.i64
 (↑(UInt8.toNat (List.getD (decL encByte (encs encByte (Src.l x))) (Int.toNat (IntKind.wrap IntKind.i64 (IntKind.wrap IntKind.i64 ((↑(Src.k x) : Int) + (1 : Int)) - (1 : Int)))) (0 : UInt8))) : Int)))
 [some
 ([V.dsl (List.length (Src.l x)) false (encs encByte (Src.l x)), V.int IntKind.i64 (IntKind.wrap IntKind.i64 ((↑(Src.k x) : Int) + (1 : Int))),
 V.int IntKind.i64
 (Int.tmod
 (IntKind.wrap IntKind.i64
 (IntKind.wrap IntKind.i64
 (IntKind.wrap IntKind.i64 (Src.s x * (31 : Int)) +
 IntKind.wrap IntKind.i64
 (↑(UInt8.toNat
 (List.getD (decL encByte (encs encByte (Src.l x))) (Int.toNat (IntKind.wrap IntKind.i64 (IntKind.wrap IntKind.i64 ((↑(Src.k x) : Int) + (1 : Int)) - (1 : Int)))) (0 : UInt8))) :
 Int)) +
 (7 : Int)))
 (2147483648 : Int))],
 67)]
 [0]))))
 else
 bif decide (IntKind.wrap IntKind.i64 ((↑(Src.k x) : Int) + (1 : Int)) > (3000 : Int)) then
 T.done
 (Ret.mk (V.int IntKind.i64 (0 : Int))
 [some ([V.dsl (List.length (Src.l x)) false (encs encByte (Src.l x)), V.int IntKind.i64 (IntKind.wrap IntKind.i64 ((↑(Src.k x) : Int) + (1 : Int))), V.int IntKind.i64 (Src.s x)], 67)] [0])
 else
 T.need [(2147483648 : Int) ≠ (0 : Int)]
 (T.need [(65536 : Int) ≠ (0 : Int)]
 (T.need [(256 : Int) ≠ (0 : Int)]
 (T.done
 (Ret.mk
 (V.int IntKind.i64
 (Int.tmod (IntKind.wrap IntKind.i64 (Int.tdiv (Int.tmod (IntKind.wrap IntKind.i64 (IntKind.wrap IntKind.i64 (Src.s x * (1103515245 : Int)) + (12345 : Int))) (2147483648 : Int)) (65536 : Int)))
 (256 : Int)))
 [some
 ([V.dsl (List.length (Src.l x)) false (encs encByte (Src.l x)), V.int IntKind.i64 (IntKind.wrap IntKind.i64 ((↑(Src.k x) : Int) + (1 : Int))),
 V.int IntKind.i64 (Int.tmod (IntKind.wrap IntKind.i64 (IntKind.wrap IntKind.i64 (Src.s x * (1103515245 : Int)) + (12345 : Int))) (2147483648 : Int))],
 67)]
 [0])))) := by kernel_rfl

theorem byte_ok (x : Src) {c : Nat} (h : x.OK (c + 1)) : FnOK Tryz.prog fByte [.ptr 0 0] [srcB x] ⟨.int .i64 (byteF x).1, [srcB (byteF x).2], [0]⟩ := by
  refine fnOK_T (E := E0) follows named (byteT x) ?_
  obtain ⟨hl, hk, h0, h1⟩ := h
  have hb := (x.l.getD x.k 0).toNat_lt
  have hw : IntKind.i64.wrap ((x.k : Int) + 1) = ((x.k + 1 : Nat) : Int) := wrap_succ (by omega)
  have hw2 : IntKind.i64.wrap (((x.k + 1 : Nat) : Int) - 1) = (x.k : Int) := by rw [wrap_id (by omega)]; omega
  simp only [WP_cond, T.WP, All, decide_eq_true_eq, decide_eq_false_iff_not, and_true, layByte.decL, hw, hw2, Int.toNat_natCast, byteF, srcB]
  refine ⟨fun hc => ?_, fun hc => ⟨fun hd => ?_, fun hd => ?_⟩⟩
  · rw [if_pos (by omega)]
    refine ⟨⟨by omega, layByte.at x.l 0 x.k 1 (by omega) rfl⟩, by omega, ⟨by omega, layByte.at x.l 0 x.k 1 (by omega) rfl⟩, ?_⟩
    simp (disch := omega) only [wrap_id]
  · rw [if_neg (by omega), if_pos (by omega)]
  · rw [if_neg (by omega), if_neg (by omega)]
    have hb := tmod_bd (x.s * 1103515245 + 12345) (by omega)
    have hq := Int.tdiv_nonneg hb.1 (show (0 : Int) ≤ 65536 by omega)
    have hq2 := Int.tdiv_le_self 65536 hb.1
    refine ⟨by omega, by omega, by omega, ?_⟩
    simp (disch := omega) only [wrap_id]

noncomputable def srcOf (cs : List V) (k s : Int) : Src := ⟨decL encByte cs, k.toNat, s⟩
theorem srcOf_mk (x : Src) : srcOf (encs encByte x.l) (x.k : Int) x.s = x := by
  unfold srcOf; rw [layByte.decL, Int.toNat_natCast]
abbrev fNext : Nat := 50
noncomputable def resByte : ResT := fun f vs hp => match vs, hp with
  | [.ptr 0 0], [some ([.dsl _ _ cs, .int _ k, .int _ s], _)] => bif Nat.beq f fByte then some ⟨byteF (srcOf cs k s), fun y => ⟨.int .i64 y.1, [srcB y.2], [0]⟩⟩ else none
  | _, _ => none
noncomputable def E1 : Env := { P := Tryz.prog, vw := vwA, res := resByte }

def nextF (x : Src) (n : Int) : Int × Src :=
  if n ≤ 1 then (0, x)
  else if n ≤ 256 then ((byteF x).1.tmod n, (byteF x).2)
  else (((byteF x).1 * 65536 + (byteF (byteF x).2).1 * 256 + (byteF (byteF (byteF x).2).2).1).tmod n, (byteF (byteF (byteF x).2).2).2)
theorem Src.OK.less {x : Src} {c d : Nat} (h : x.OK c) (hd : d ≤ c) : x.OK d := ⟨h.hl, by have := h.hk; omega, h.h0, h.h1⟩
theorem nextF_ok {x : Src} {c : Nat} {n : Int} (h : x.OK (c + 3)) (hn : 1 ≤ n) : (nextF x n).2.OK c ∧ 0 ≤ (nextF x n).1 ∧ (nextF x n).1 < n := by
  have h1 := byteF_ok (c := c + 2) h
  have h2 := byteF_ok (c := c + 1) h1.1
  have h3 := byteF_ok (c := c) h2.1
  unfold nextF
  split
  · exact ⟨h.less (by omega), by simp, by simp only; omega⟩
  · split
    · exact ⟨h1.1.less (by omega), Int.tmod_nonneg _ h1.2.1, Int.tmod_lt_of_pos _ (by omega)⟩
    · exact ⟨h3.1, Int.tmod_nonneg _ (by omega), Int.tmod_lt_of_pos _ (by omega)⟩

set_option maxRecDepth 100000 in
theorem nextT (x : Src) (n : Int) : fnT E1 0 fNext [.ptr 0 0, .int .i64 n] [srcB x] =
 bif decide (n ≤ (1 : Int)) then
 T.done (Ret.mk (V.int IntKind.i64 (0 : Int)) [some ([V.dsl (List.length (Src.l x)) false (encs encByte (Src.l x)), V.int IntKind.i64 (↑(Src.k x) : Int), V.int IntKind.i64 (Src.s x)], 67)] [])
 else
 bif decide (n ≤ (256 : Int)) then
 T.bind (byteF (srcOf (encs encByte (Src.l x)) (↑(Src.k x) : Int) (Src.s x))) fun y0 =>
 T.need
 [FnOK (Env.P E1) 80 [V.ptr 0 0] [some ([V.dsl (List.length (Src.l x)) false (encs encByte (Src.l x)), V.int IntKind.i64 (↑(Src.k x) : Int), V.int IntKind.i64 (Src.s x)], 67)]
 (Ret.mk (V.int IntKind.i64 (Prod.fst y0))
 [some ([V.dsl (List.length (Src.l (Prod.snd y0))) false (encs encByte (Src.l (Prod.snd y0))), V.int IntKind.i64 (↑(Src.k (Prod.snd y0)) : Int), V.int IntKind.i64 (Src.s (Prod.snd y0))], 67)]
 [0])]
 (T.need [n ≠ (0 : Int)]
 (T.done
 (Ret.mk (V.int IntKind.i64 (Int.tmod (Prod.fst y0) n))
 [some ([V.dsl (List.length (Src.l (Prod.snd y0))) false (encs encByte (Src.l (Prod.snd y0))), V.int IntKind.i64 (↑(Src.k (Prod.snd y0)) : Int), V.int IntKind.i64 (Src.s (Prod.snd y0))], 67)]
 [0])))
 else
 T.bind (byteF (srcOf (encs encByte (Src.l x)) (↑(Src.k x) : Int) (Src.s x))) fun y1 =>
 T.need
 [FnOK (Env.P E1) 80 [V.ptr 0 0] [some ([V.dsl (List.length (Src.l x)) false (encs encByte (Src.l x)), V.int IntKind.i64 (↑(Src.k x) : Int), V.int IntKind.i64 (Src.s x)], 67)]
 (Ret.mk (V.int IntKind.i64 (Prod.fst y1))
 [some ([V.dsl (List.length (Src.l (Prod.snd y1))) false (encs encByte (Src.l (Prod.snd y1))), V.int IntKind.i64 (↑(Src.k (Prod.snd y1)) : Int), V.int IntKind.i64 (Src.s (Prod.snd y1))], 67)]
 [0])]
 (T.bind (byteF (srcOf (encs encByte (Src.l (Prod.snd y1))) (↑(Src.k (Prod.snd y1)) : Int) (Src.s (Prod.snd y1)))) fun y2 =>
 T.need
 [FnOK (Env.P E1) 80 [V.ptr 0 0]
 [some ([V.dsl (List.length (Src.l (Prod.snd y1))) false (encs encByte (Src.l (Prod.snd y1))), V.int IntKind.i64 (↑(Src.k (Prod.snd y1)) : Int), V.int IntKind.i64 (Src.s (Prod.snd y1))], 67)]
 (Ret.mk (V.int IntKind.i64 (Prod.fst y2))
 [some ([V.dsl (List.length (Src.l (Prod.snd y2))) false (encs encByte (Src.l (Prod.snd y2))), V.int IntKind.i64 (↑(Src.k (Prod.snd y2)) : Int), V.int IntKind.i64 (Src.s (Prod.snd y2))], 67)]
 [0])]
 (T.bind (byteF (srcOf (encs encByte (Src.l (Prod.snd y2))) (↑(Src.k (Prod.snd y2)) : Int) (Src.s (Prod.snd y2)))) fun y3 =>
 T.need
 [FnOK (Env.P E1) 80 [V.ptr 0 0]
 [some ([V.dsl (List.length (Src.l (Prod.snd y2))) false (encs encByte (Src.l (Prod.snd y2))), V.int IntKind.i64 (↑(Src.k (Prod.snd y2)) : Int), V.int IntKind.i64 (Src.s (Prod.snd y2))], 67)]
 (Ret.mk (V.int IntKind.i64 (Prod.fst y3))
 [some ([V.dsl (List.length (Src.l (Prod.snd y3))) false (encs encByte (Src.l (Prod.snd y3))), V.int IntKind.i64 (↑(Src.k (Prod.snd y3)) : Int), V.int IntKind.i64 (Src.s (Prod.snd y3))], 67)]
 [0])]
 (T.need [n ≠ (0 : Int)]
 (T.done
 (Ret.mk
 (V.int IntKind.i64
 (Int.tmod (IntKind.wrap IntKind.i64 (IntKind.wrap IntKind.i64 (IntKind.wrap IntKind.i64 (Prod.fst y1 * (65536 : Int)) + IntKind.wrap IntKind.i64 (Prod.fst y2 * (256 : Int))) + Prod.fst y3)) n))
 [some ([V.dsl (List.length (Src.l (Prod.snd y3))) false (encs encByte (Src.l (Prod.snd y3))), V.int IntKind.i64 (↑(Src.k (Prod.snd y3)) : Int), V.int IntKind.i64 (Src.s (Prod.snd y3))], 67)]
 [0]))))) := by kernel_rfl

theorem next_ok (x : Src) (n : Int) {c : Nat} (h : x.OK (c + 3)) : FnOK Tryz.prog fNext [.ptr 0 0, .int .i64 n] [srcB x] ⟨.int .i64 (nextF x n).1, [srcB (nextF x n).2], [0]⟩ := by
  refine fnOK_TL (E := E1) follows named (nextT x n) (by simp) ?_
  have h1 := byteF_ok (c := c + 2) h
  have h2 := byteF_ok (c := c + 1) h1.1
  have h3 := byteF_ok (c := c) h2.1
  simp only [WP_cond, T.WP, All, decide_eq_true_eq, decide_eq_false_iff_not, and_true, srcOf_mk, nextF]
  refine ⟨fun hc => by rw [if_pos hc]; exact ⟨rfl, rfl, by simp⟩, fun hc => ⟨fun hd y1 e1 => ?_, fun hd y1 e1 => ?_⟩⟩
  · subst e1
    refine ⟨byte_ok x h, by omega, ?_⟩
    rw [if_neg hc, if_pos hd]; exact ⟨rfl, rfl, by simp⟩
  · subst e1
    refine ⟨byte_ok x h, fun y2 e2 => ?_⟩
    subst e2
    refine ⟨byte_ok _ h1.1, fun y3 e3 => ?_⟩
    subst e3
    refine ⟨byte_ok _ h2.1, by omega, ?_⟩
    rw [if_neg hc, if_neg hd]
    simp (disch := omega) only [wrap_id]
    exact ⟨rfl, rfl, by simp⟩

abbrev fChance : Nat := 52
abbrev fPick : Nat := 64
noncomputable def resNext : ResT := fun f vs hp => match vs, hp with
  | [.ptr 0 0, .int _ n], [some ([.dsl _ _ cs, .int _ k, .int _ s], _)] => bif Nat.beq f fNext then some ⟨nextF (srcOf cs k s) n, fun y => ⟨.int .i64 y.1, [srcB y.2], [0]⟩⟩ else none
  | _, _ => none
noncomputable def E2 : Env := { P := Tryz.prog, vw := vwA, res := resNext }

def chanceF (x : Src) (n : Int) : Bool × Src := ((nextF x n).1 == n - 1, (nextF x n).2)

set_option maxRecDepth 100000 in
theorem chanceT (x : Src) (n : Int) : fnT E2 0 fChance [.ptr 0 0, .int .i64 n] [srcB x] =
 T.bind (nextF (srcOf (encs encByte (Src.l x)) (↑(Src.k x) : Int) (Src.s x)) n) fun y0 =>
 T.need
 [FnOK (Env.P E2) 50 [V.ptr 0 0, V.int IntKind.i64 n]
 [some ([V.dsl (List.length (Src.l x)) false (encs encByte (Src.l x)), V.int IntKind.i64 (↑(Src.k x) : Int), V.int IntKind.i64 (Src.s x)], 67)]
 (Ret.mk (V.int IntKind.i64 (Prod.fst y0))
 [some ([V.dsl (List.length (Src.l (Prod.snd y0))) false (encs encByte (Src.l (Prod.snd y0))), V.int IntKind.i64 (↑(Src.k (Prod.snd y0)) : Int), V.int IntKind.i64 (Src.s (Prod.snd y0))], 67)]
 [0])]
 (T.done
 (Ret.mk (V.bool (Prod.fst y0 == IntKind.wrap IntKind.i64 (n - (1 : Int))))
 [some ([V.dsl (List.length (Src.l (Prod.snd y0))) false (encs encByte (Src.l (Prod.snd y0))), V.int IntKind.i64 (↑(Src.k (Prod.snd y0)) : Int), V.int IntKind.i64 (Src.s (Prod.snd y0))], 67)] [0])) := (T.force_eq _).symm.trans (by kernel_rfl)

theorem chance_ok (x : Src) (n : Int) {c : Nat} (h : x.OK (c + 3)) (hn : 1 ≤ n ∧ n ≤ 1000000) : FnOK Tryz.prog fChance [.ptr 0 0, .int .i64 n] [srcB x] ⟨.bool (chanceF x n).1, [srcB (chanceF x n).2], [0]⟩ := by
  refine fnOK_T (E := E2) follows named (chanceT x n) ?_
  simp only [WP_cond, T.WP, All, decide_eq_true_eq, decide_eq_false_iff_not, and_true, srcOf_mk, chanceF]
  intro y e
  subst e
  refine ⟨next_ok x n h, ?_⟩
  rw [wrap_id (by omega)]
  rfl

def strB (L : List (List UInt8)) : Option Blk := some ([.sld (encs encStr L)], 9)
def pickF (x : Src) (L : List (List UInt8)) : List UInt8 × Src :=
  if L.length = 0 then ([], x) else (L.getD (nextF x L.length).1.toNat [], (nextF x L.length).2)

set_option maxRecDepth 100000 in
theorem pickT (x : Src) (L : List (List UInt8)) (full : Bool) : fnT E2 0 fPick [.ptr 0 0, .sl 1 0 L.length full] [srcB x, strB L] =
 bif (↑(List.length L) : Int) == (0 : Int) then
 T.done
 (Ret.mk (V.str []) [some ([V.dsl (List.length (Src.l x)) false (encs encByte (Src.l x)), V.int IntKind.i64 (↑(Src.k x) : Int), V.int IntKind.i64 (Src.s x)], 67), some ([V.sld (encs encStr L)], 9)] [])
 else
 T.bind (nextF (srcOf (encs encByte (Src.l x)) (↑(Src.k x) : Int) (Src.s x)) (↑(List.length L) : Int)) fun y0 =>
 T.need
 [FnOK (Env.P E2) 50 [V.ptr 0 0, V.int IntKind.i64 (↑(List.length L) : Int)]
 [some ([V.dsl (List.length (Src.l x)) false (encs encByte (Src.l x)), V.int IntKind.i64 (↑(Src.k x) : Int), V.int IntKind.i64 (Src.s x)], 67)]
 (Ret.mk (V.int IntKind.i64 (Prod.fst y0))
 [some ([V.dsl (List.length (Src.l (Prod.snd y0))) false (encs encByte (Src.l (Prod.snd y0))), V.int IntKind.i64 (↑(Src.k (Prod.snd y0)) : Int), V.int IntKind.i64 (Src.s (Prod.snd y0))], 67)]
 [0])]
 (T.need [(0 : Int) ≤ Prod.fst y0 ∧ Prod.fst y0 < (↑(List.length L) : Int)]
 (T.need
 [List.take 1 (List.drop (0 + Int.toNat (Prod.fst y0) * 1) (encs encStr L)) =
 [V.str (List.getD (decL encStr (encs encStr L)) ((0 + Int.toNat (Prod.fst y0) * 1) / 1) [])]]
 (T.done
 (Ret.mk (V.str (List.getD (decL encStr (encs encStr L)) ((0 + Int.toNat (Prod.fst y0) * 1) / 1) []))
 [some ([V.dsl (List.length (Src.l (Prod.snd y0))) false (encs encByte (Src.l (Prod.snd y0))), V.int IntKind.i64 (↑(Src.k (Prod.snd y0)) : Int), V.int IntKind.i64 (Src.s (Prod.snd y0))], 67),
 some ([V.sld (encs encStr L)], 9)]
 [0])))) := by kernel_rfl

theorem pick_ok (x : Src) (L : List (List UInt8)) (full : Bool) {c : Nat} (h : x.OK (c + 3)) : FnOK Tryz.prog fPick [.ptr 0 0, .sl 1 0 L.length full] [srcB x, strB L] ⟨.str (pickF x L).1, [srcB (pickF x L).2, strB L], [0]⟩ := by
  refine fnOK_TL (E := E2) follows named (pickT x L full) (by simp) ?_
  simp only [WP_cond, T.WP, All, decide_eq_true_eq, decide_eq_false_iff_not, and_true, srcOf_mk, pickF, flat_sealed, layStr.decL, Nat.zero_add, Nat.mul_one, Nat.div_one, beq_iff_eq, beq_eq_false_iff_ne]
  refine ⟨fun hc => by rw [if_pos (by omega)]; exact ⟨rfl, rfl, by simp⟩, fun hc y e => ?_⟩
  subst e
  have hn := nextF_ok (n := L.length) h (by omega)
  refine ⟨next_ok x _ h, hn.2, ?_, ?_⟩
  · have := layStr.at' L [] _ 1 hn.2 rfl
    rwa [Nat.mul_one] at this
  · rw [if_neg (by omega)]; exact ⟨rfl, rfl, by simp⟩

theorem pickF_ok {x : Src} {c : Nat} {L : List (List UInt8)} (h : x.OK (c + 3)) (hL : L ≠ []) : (pickF x L).2.OK c ∧ (pickF x L).1 ∈ L := by
  unfold pickF
  have hl : L.length ≠ 0 := by simpa using hL
  rw [if_neg hl]
  have hn := nextF_ok (n := L.length) h (by omega)
  refine ⟨hn.1, ?_⟩
  rw [List.getD_eq_getElem?_getD, List.getElem?_eq_getElem (by omega)]
  exact List.getElem_mem _

abbrev fJsText : Nat := 51
def strsOf : List V → List (List UInt8)
  | .str s :: t => s :: strsOf t
  | _ => []
noncomputable def resPick : ResT := fun f vs hp => match vs, hp with
  | [.ptr 0 0, .sl 1 0 _ _], [some ([.dsl _ _ cs, .int _ k, .int _ s], _), some (c, t)] => bif Nat.beq f fPick then some ⟨pickF (srcOf cs k s) (strsOf c), fun y => ⟨.str y.1, [srcB y.2, some (c, t)], [0]⟩⟩ else none
  | [.ptr 0 0, .int _ n], [some ([.dsl _ _ cs, .int _ k, .int _ s], _)] => bif Nat.beq f fChance then some ⟨chanceF (srcOf cs k s) n, fun y => ⟨.bool y.1, [srcB y.2], [0]⟩⟩ else none
  | _, _ => none
noncomputable def E3 : Env := { P := Tryz.prog, vw := vwA, res := resNext.or resPick }
theorem pick_ex (x : Src) (L : List (List UInt8)) (full : Bool) {n : Nat} {t : TypeId} {cells : List V} (hn : n = L.length) (ht : t = 9) (hc : cells = encs encStr L) {c : Nat} (h : x.OK (c + 3)) : FnOK Tryz.prog fPick [.ptr 0 0, .sl 1 0 n full] [srcB x, some (cells, t)] ⟨.str (pickF x L).1, [srcB (pickF x L).2, some (cells, t)], [0]⟩ := by
  subst hn ht hc
  have hf : flat (encs encStr L) = encs encStr L := by
    induction L with
    | nil => rfl
    | cons a L ih => rw [encs_cons]; exact congrArg (V.str a :: ·) ih
  have hr : V.refsL (encs encStr L) = [] := by
    clear hf
    induction L with
    | nil => rfl
    | cons a L ih => rw [encs_cons]; simpa [encStr, V.refsL, V.refs] using ih
  have := (pick_ok x L full h).unsl (layStr.hasO L) (b := 1) (c := encs encStr L) (T := 9) (by rw [hf]; rfl) hr (by simp)
  simpa using this

def jsTexts : List (List UInt8) := [[], [97], [98], [107], [116, 119, 111, 32, 119, 111, 114, 100, 115], [113, 34, 113], [98, 92, 98], [122, 122]]

set_option maxRecDepth 100000 in
theorem jsTextT (x : Src) : fnT E3 0 fJsText [.ptr 0 0] [srcB x] =
 T.bind
 (pickF (srcOf (encs encByte (Src.l x)) (↑(Src.k x) : Int) (Src.s x))
 (strsOf
 [V.str [], V.str [97], V.str [98], V.str [107],
 V.str [116, 119, 111, 32, 119, 111, 114, 100, 115], V.str [113, 34, 113],
 V.str [98, 92, 98], V.str [122, 122]]))
 fun y0 =>
 T.need
 [FnOK (Env.P E3) 64 [V.ptr 0 0, V.sl 1 0 8 true]
 [some ([V.dsl (List.length (Src.l x)) false (encs encByte (Src.l x)), V.int IntKind.i64 (↑(Src.k x) : Int), V.int IntKind.i64 (Src.s x)], 67),
 some
 ([V.str [], V.str [97], V.str [98], V.str [107],
 V.str [116, 119, 111, 32, 119, 111, 114, 100, 115], V.str [113, 34, 113],
 V.str [98, 92, 98], V.str [122, 122]],
 9)]
 (Ret.mk (V.str (Prod.fst y0))
 [some ([V.dsl (List.length (Src.l (Prod.snd y0))) false (encs encByte (Src.l (Prod.snd y0))), V.int IntKind.i64 (↑(Src.k (Prod.snd y0)) : Int), V.int IntKind.i64 (Src.s (Prod.snd y0))], 67),
 some
 ([V.str [], V.str [97], V.str [98], V.str [107],
 V.str [116, 119, 111, 32, 119, 111, 114, 100, 115], V.str [113, 34, 113],
 V.str [98, 92, 98], V.str [122, 122]],
 9)]
 [0])]
 (T.done
 (Ret.mk (V.str (Prod.fst y0))
 [some ([V.dsl (List.length (Src.l (Prod.snd y0))) false (encs encByte (Src.l (Prod.snd y0))), V.int IntKind.i64 (↑(Src.k (Prod.snd y0)) : Int), V.int IntKind.i64 (Src.s (Prod.snd y0))], 67)] [0])) := (T.force_eq _).symm.trans (by kernel_rfl)

theorem jsText_ok (x : Src) {c : Nat} (h : x.OK (c + 3)) : FnOK Tryz.prog fJsText [.ptr 0 0] [srcB x] ⟨.str (pickF x jsTexts).1, [srcB (pickF x jsTexts).2], [0]⟩ := by
  refine fnOK_TL (E := E3) follows named (jsTextT x) (by simp) ?_
  simp only [WP_cond, T.WP, All, decide_eq_true_eq, decide_eq_false_iff_not, and_true, beq_iff_eq, beq_eq_false_iff_ne, ne_eq, srcOf_mk]
  intro y e
  subst e
  exact ⟨pick_ex x jsTexts true rfl rfl rfl h, ⟨rfl, rfl, by simp⟩⟩

end Go.Proofs.YtfncaghjfgnnhaaGreatDoor

namespace Go.Proofs.YtfncaghjfgnnhaaGreatDoor
open Go.RowKit
set_option maxRecDepth 100000

abbrev fJson : Nat := 33

def drawList (f : Src → J × Src) : Nat → Src → List J → List J × Src
  | 0, x, acc => (acc, x)
  | i + 1, x, acc => drawList f i (f x).2 (acc ++ [(f x).1])
def drawObj (f : Src → J × Src) : List (List UInt8) → Src → List (List UInt8) → List J → List (List UInt8) × List J × Src
  | [], x, ks, js => (ks, js, x)
  | k :: t, x, ks, js => if (chanceF x 2).1 then drawObj f t (f (chanceF x 2).2).2 (ks ++ [k]) (js ++ [(f (chanceF x 2).2).1]) else drawObj f t (chanceF x 2).2 ks js
def objKeys : List (List UInt8) := [[97], [98], [107], [122, 122]]
def jsonK (f : Src → J × Src) (k : Int) (x : Src) : J × Src :=
  if k = 0 then (.zero, x)
  else if k = 1 then (.mk 1 (nextF x 2).1 [] [] [], (nextF x 2).2)
  else if k = 2 then (.mk 2 ([(nextF x 20).1 - 9, 1000000000].getD ((nextF (nextF x 20).2 6).1.tdiv 5).toNat 0) [] [] [], (nextF (nextF x 20).2 6).2)
  else if k = 3 then (.mk 3 0 (pickF x jsTexts).1 [] [], (pickF x jsTexts).2)
  else if k = 4 then (.mk 4 0 [] [] (drawList f (nextF x 4).1.toNat (nextF x 4).2 []).1, (drawList f (nextF x 4).1.toNat (nextF x 4).2 []).2)
  else (.mk 5 0 [] (drawObj f objKeys x [] []).1 (drawObj f objKeys x [] []).2.1, (drawObj f objKeys x [] []).2.2)
def jsonF : Nat → Src → J × Src
  | 0, x => jsonK (fun y => (.zero, y)) (nextF (nextF x 6).2 4).1 (nextF (nextF x 6).2 4).2
  | d + 1, x => jsonK (jsonF d) (nextF x 6).1 (nextF x 6).2

def zJ : Option Blk := some ([.int .i64 0, .int .i64 0, .str [], .dsl 0 true [], .dsl 0 true []], tJ)
def stL0 (x : Src) (d i : Int) : St := ⟨mkTm 87 [(0, .ptr 0 0), (1, .int .i64 d), (4, .ptr 1 0), (6, .ptr 2 0), (7, .int .i64 i)], [srcB x, zJ, some ([.int .i64 4, .int .i64 0, .str [], .dsl 0 true [], .dsl 0 true []], tJ)], [0]⟩
def stL1 (x : Src) (d i : Int) (L : List J) : St := ⟨mkTm 87 [(0, .ptr 0 0), (1, .int .i64 d), (4, .ptr 1 0), (6, .ptr 2 0), (7, .int .i64 i)], [srcB x, zJ, some ([.int .i64 4, .int .i64 0, .str [], .dsl 0 true [], .sl 3 0 L.length false], tJ), some ([.sld (encs encJ L)], tJ)], [0]⟩
noncomputable def resJson (f : Src → J × Src) : ResT := fun g vs hp => match vs, hp with
  | [.ptr 0 0, .int _ d], [some ([.dsl _ _ cs, .int _ k, .int _ s], _)] => bif Nat.beq g fJson then some ⟨f (srcOf cs k s), fun y => ⟨.agg (vwJ y.1), [srcB y.2], [0]⟩⟩ else none
  | _, _ => none
noncomputable def EJ (f : Src → J × Src) : Env := { P := Tryz.prog, vw := vwA, res := (resNext.or resPick).or (resJson f) }
def nfL : Ex → Kp := fun _ => { keep := [0, 1, 4, 6, 7] }

set_option maxRecDepth 100000 in
theorem list0T (f : Src → J × Src) (x : Src) (d i : Int) : bodyT (EJ f) 1 nfL (lp Tryz.prog fJson 1) (stL0 x d i) =
 bif decide (i > (0 : Int)) then
 T.bind (f (srcOf (encs encByte (Src.l x)) (↑(Src.k x) : Int) (Src.s x))) fun y0 =>
 T.need
 [FnOK (Env.P (EJ f)) 33 [V.ptr 0 0, V.int IntKind.i64 (IntKind.wrap IntKind.i64 (d - (1 : Int)))]
 [some ([V.dsl (List.length (Src.l x)) false (encs encByte (Src.l x)), V.int IntKind.i64 (↑(Src.k x) : Int), V.int IntKind.i64 (Src.s x)], 67)]
 (Ret.mk
 (V.agg
 [V.int IntKind.i64 (J.kind (Prod.fst y0)), V.int IntKind.i64 (J.n (Prod.fst y0)), V.str (J.t (Prod.fst y0)), V.dsl (List.length (J.keys (Prod.fst y0))) false (encs encStr (J.keys (Prod.fst y0))),
 V.dsl (List.length (J.items (Prod.fst y0))) false (encs encJ (J.items (Prod.fst y0)))])
 [some ([V.dsl (List.length (Src.l (Prod.snd y0))) false (encs encByte (Src.l (Prod.snd y0))), V.int IntKind.i64 (↑(Src.k (Prod.snd y0)) : Int), V.int IntKind.i64 (Src.s (Prod.snd y0))], 67)]
 [0])]
 (T.need [true = true, 0 = 0, 1 ≤ 9223372036854775807, 80 ≤ 140737488355328]
 (T.done
 (Ex.normal,
 St.mk
 (mkTm 87
 [(0, V.ptr 0 0), (1, V.int IntKind.i64 d), (4, V.ptr 1 0), (6, V.ptr 2 0),
 (7, V.int IntKind.i64 (IntKind.wrap IntKind.i64 (i - (1 : Int))))])
 [some ([V.dsl (List.length (Src.l (Prod.snd y0))) false (encs encByte (Src.l (Prod.snd y0))), V.int IntKind.i64 (↑(Src.k (Prod.snd y0)) : Int), V.int IntKind.i64 (Src.s (Prod.snd y0))], 67),
 some ([V.int IntKind.i64 (0 : Int), V.int IntKind.i64 (0 : Int), V.str [], V.dsl 0 true [], V.dsl 0 true []], 25),
 some ([V.int IntKind.i64 (4 : Int), V.int IntKind.i64 (0 : Int), V.str [], V.dsl 0 true [], V.sl 3 0 1 false], 25),
 some
 ([V.sld
 [V.int IntKind.i64 (J.kind (Prod.fst y0)), V.int IntKind.i64 (J.n (Prod.fst y0)), V.str (J.t (Prod.fst y0)), V.dsl (List.length (J.keys (Prod.fst y0))) false (encs encStr (J.keys (Prod.fst y0))),
 V.dsl (List.length (J.items (Prod.fst y0))) false (encs encJ (J.items (Prod.fst y0)))]],
 25)]
 [0])))
 else
 T.done
 (Ex.exit 1,
 St.mk (mkTm 87 [(0, V.ptr 0 0), (1, V.int IntKind.i64 d), (4, V.ptr 1 0), (6, V.ptr 2 0), (7, V.int IntKind.i64 i)])
 [some ([V.dsl (List.length (Src.l x)) false (encs encByte (Src.l x)), V.int IntKind.i64 (↑(Src.k x) : Int), V.int IntKind.i64 (Src.s x)], 67),
 some ([V.int IntKind.i64 (0 : Int), V.int IntKind.i64 (0 : Int), V.str [], V.dsl 0 true [], V.dsl 0 true []], 25),
 some ([V.int IntKind.i64 (4 : Int), V.int IntKind.i64 (0 : Int), V.str [], V.dsl 0 true [], V.dsl 0 true []], 25)]
 [0]) := by kernel_rfl
set_option maxRecDepth 100000 in
theorem list1T (f : Src → J × Src) (x : Src) (d i : Int) (L : List J) : bodyT (EJ f) 1 nfL (lp Tryz.prog fJson 1) (stL1 x d i L) =
 bif decide (i > (0 : Int)) then
 T.bind (f (srcOf (encs encByte (Src.l x)) (↑(Src.k x) : Int) (Src.s x))) fun y0 =>
 T.need
 [FnOK (Env.P (EJ f)) 33 [V.ptr 0 0, V.int IntKind.i64 (IntKind.wrap IntKind.i64 (d - (1 : Int)))]
 [some ([V.dsl (List.length (Src.l x)) false (encs encByte (Src.l x)), V.int IntKind.i64 (↑(Src.k x) : Int), V.int IntKind.i64 (Src.s x)], 67)]
 (Ret.mk
 (V.agg
 [V.int IntKind.i64 (J.kind (Prod.fst y0)), V.int IntKind.i64 (J.n (Prod.fst y0)), V.str (J.t (Prod.fst y0)), V.dsl (List.length (J.keys (Prod.fst y0))) false (encs encStr (J.keys (Prod.fst y0))),
 V.dsl (List.length (J.items (Prod.fst y0))) false (encs encJ (J.items (Prod.fst y0)))])
 [some ([V.dsl (List.length (Src.l (Prod.snd y0))) false (encs encByte (Src.l (Prod.snd y0))), V.int IntKind.i64 (↑(Src.k (Prod.snd y0)) : Int), V.int IntKind.i64 (Src.s (Prod.snd y0))], 67)]
 [0])]
 (T.need [0 = 0, List.length (encs encJ L) = List.length L * 5, List.length L + 1 ≤ 9223372036854775807, (List.length L + 1) * 80 ≤ 140737488355328]
 (T.done
 (Ex.normal,
 St.mk
 (mkTm 87
 [(0, V.ptr 0 0), (1, V.int IntKind.i64 d), (4, V.ptr 1 0), (6, V.ptr 2 0),
 (7, V.int IntKind.i64 (IntKind.wrap IntKind.i64 (i - (1 : Int))))])
 [some ([V.dsl (List.length (Src.l (Prod.snd y0))) false (encs encByte (Src.l (Prod.snd y0))), V.int IntKind.i64 (↑(Src.k (Prod.snd y0)) : Int), V.int IntKind.i64 (Src.s (Prod.snd y0))], 67),
 some ([V.int IntKind.i64 (0 : Int), V.int IntKind.i64 (0 : Int), V.str [], V.dsl 0 true [], V.dsl 0 true []], 25),
 some ([V.int IntKind.i64 (4 : Int), V.int IntKind.i64 (0 : Int), V.str [], V.dsl 0 true [], V.sl 3 0 (List.length L + 1) false], 25),
 some
 ([V.sld
 (encs encJ L ++
 [V.int IntKind.i64 (J.kind (Prod.fst y0)), V.int IntKind.i64 (J.n (Prod.fst y0)), V.str (J.t (Prod.fst y0)),
 V.dsl (List.length (J.keys (Prod.fst y0))) false (encs encStr (J.keys (Prod.fst y0))), V.dsl (List.length (J.items (Prod.fst y0))) false (encs encJ (J.items (Prod.fst y0)))])],
 25)]
 [0])))
 else
 T.done
 (Ex.exit 1,
 St.mk (mkTm 87 [(0, V.ptr 0 0), (1, V.int IntKind.i64 d), (4, V.ptr 1 0), (6, V.ptr 2 0), (7, V.int IntKind.i64 i)])
 [some ([V.dsl (List.length (Src.l x)) false (encs encByte (Src.l x)), V.int IntKind.i64 (↑(Src.k x) : Int), V.int IntKind.i64 (Src.s x)], 67),
 some ([V.int IntKind.i64 (0 : Int), V.int IntKind.i64 (0 : Int), V.str [], V.dsl 0 true [], V.dsl 0 true []], 25),
 some ([V.int IntKind.i64 (4 : Int), V.int IntKind.i64 (0 : Int), V.str [], V.dsl 0 true [], V.sl 3 0 (List.length L) false], 25), some ([V.sld (encs encJ L)], 25)]
 [0]) := by kernel_rfl

structure Draw (f : Src → J × Src) (d : Int) (q : Nat) : Prop where
  call : ∀ x c, x.OK (c + q) → FnOK Tryz.prog fJson [.ptr 0 0, .int .i64 d] [srcB x] ⟨.agg (vwJ (f x).1), [srcB (f x).2], [0]⟩
  cost : ∀ x c, x.OK (c + q) → (f x).2.OK c

theorem flatC_snoc (L : List J) (j : J) : flatC (.sld (encs encJ L) :: vwJ j) = encs encJ (L ++ [j]) := by
  rw [encs_snoc, encJ_vw]
  simp only [flatC, vwJ, V.can, sls]

theorem stL1_snoc (x : Src) (d i : Int) (L : List J) (j : J) : stL1 x d i (L ++ [j]) = ⟨mkTm 87 [(0, .ptr 0 0), (1, .int .i64 d), (4, .ptr 1 0), (6, .ptr 2 0), (7, .int .i64 i)], [srcB x, zJ, some ([.int .i64 4, .int .i64 0, .str [], .dsl 0 true [], .sl 3 0 (L.length + 1) false], tJ), some ([.sld (flatC (.sld (encs encJ L) :: vwJ j))], tJ)], [0]⟩ := by
  rw [flatC_snoc]; simp [stL1]

theorem list1_loop {f : Src → J × Src} {d : Nat} {q : Nat} (hf : Draw f d q) (hd : d ≤ 1000) : ∀ (i : Nat) (x : Src) (L : List J) (c : Nat), x.OK (c + i * q) → L.length + i ≤ 1000 →
    LoopTo Tryz.prog 1 (lp Tryz.prog fJson 1) (stL1 x ((d + 1 : Nat) : Int) i L) (.exit 1) (stL1 (drawList f i x L).2 ((d + 1 : Nat) : Int) 0 (drawList f i x L).1)
  | 0, x, L, c, h, hL => by
    refine loopT (E := EJ f) follows named (list1T f x _ _ L) ?_
    simp only [WP_cond, T.WP, All, decide_eq_true_eq, decide_eq_false_iff_not, and_true, beq_iff_eq, beq_eq_false_iff_ne, ne_eq, srcOf_mk]
    exact ⟨fun h => by omega, fun _ => ⟨rfl, rfl⟩⟩
  | i + 1, x, L, c, h, hL => by
    refine loopT (E := EJ f) follows named (list1T f x _ _ L) ?_
    simp only [WP_cond, T.WP, All, decide_eq_true_eq, decide_eq_false_iff_not, and_true, beq_iff_eq, beq_eq_false_iff_ne, ne_eq, srcOf_mk]
    refine ⟨fun _ y e => ?_, fun h => by omega⟩
    subst e
    have hc : x.OK ((c + i * q) + q) := by rw [Nat.add_mul, Nat.one_mul, ← Nat.add_assoc] at h; exact h
    rw [wrap_id (by omega), show ((d + 1 : Nat) : Int) - 1 = d by omega]
    refine ⟨hf.call x _ hc, ⟨trivial, layJ.length _, by omega, by omega⟩, ?_⟩
    rw [wrap_id (by omega), show ((i + 1 : Nat) : Int) - 1 = i by omega]
    have ih := list1_loop hf hd i (f x).2 (L ++ [(f x).1]) c (hf.cost x _ hc) (by simp; omega)
    rw [stL1_snoc] at ih
    exact ih

theorem list0_loop {f : Src → J × Src} {d : Nat} {q : Nat} (hf : Draw f d q) (hd : d ≤ 1000) (i : Nat) (x : Src) (c : Nat) (h : x.OK (c + (i + 1) * q)) (hi : i ≤ 900) :
    LoopTo Tryz.prog 1 (lp Tryz.prog fJson 1) (stL0 x ((d + 1 : Nat) : Int) ((i + 1 : Nat) : Int)) (.exit 1) (stL1 (drawList f (i + 1) x []).2 ((d + 1 : Nat) : Int) 0 (drawList f (i + 1) x []).1) := by
  refine loopT (E := EJ f) follows named (list0T f x _ _) ?_
  simp only [WP_cond, T.WP, All, decide_eq_true_eq, decide_eq_false_iff_not, and_true, beq_iff_eq, beq_eq_false_iff_ne, ne_eq, srcOf_mk]
  refine ⟨fun _ y e => ?_, fun h => by omega⟩
  subst e
  have hc : x.OK ((c + i * q) + q) := by rw [Nat.add_mul, Nat.one_mul, ← Nat.add_assoc] at h; exact h
  rw [wrap_id (by omega), show ((d + 1 : Nat) : Int) - 1 = d by omega]
  refine ⟨hf.call x _ hc, by simp, ?_⟩
  rw [wrap_id (by omega), show ((i + 1 : Nat) : Int) - 1 = i by omega]
  have ih := list1_loop hf hd i (f x).2 ([] ++ [(f x).1]) c (hf.cost x _ hc) (by simp; omega)
  rw [stL1_snoc] at ih
  exact ih
theorem list0_end {f : Src → J × Src} (x : Src) (d : Int) : LoopTo Tryz.prog 1 (lp Tryz.prog fJson 1) (stL0 x d 0) (.exit 1) (stL0 x d 0) := by
  refine loopT (E := EJ f) follows named (list0T f x _ _) ?_
  simp only [WP_cond, T.WP, All, decide_eq_true_eq, decide_eq_false_iff_not, and_true, beq_iff_eq, beq_eq_false_iff_ne, ne_eq, srcOf_mk]
  exact ⟨fun h => by omega, fun _ => ⟨rfl, rfl⟩⟩

def stO0 (x : Src) (d i : Int) : St := ⟨mkTm 87 [(0, .ptr 0 0), (1, .int .i64 d), (4, .ptr 1 0), (8, .ptr 2 0), (9, .int .i64 i)], [srcB x, zJ, some ([.int .i64 5, .int .i64 0, .str [], .dsl 0 true [], .dsl 0 true []], tJ)], [0]⟩
def stO1 (x : Src) (d i : Int) (ks : List (List UInt8)) (L : List J) : St := ⟨mkTm 87 [(0, .ptr 0 0), (1, .int .i64 d), (4, .ptr 1 0), (8, .ptr 2 0), (9, .int .i64 i)], [srcB x, zJ, some ([.int .i64 5, .int .i64 0, .str [], .sl 3 0 ks.length false, .sl 4 0 L.length false], tJ), strB ks, some ([.sld (encs encJ L)], tJ)], [0]⟩
def nfO : Ex → Kp := fun _ => { keep := [0, 1, 4, 8, 9] }
noncomputable def EO (f : Src → J × Src) (k : List UInt8) : Env := { EJ f with vs := [(25, 5, .str k)] }

set_option maxRecDepth 100000 in
theorem obj0T (f : Src → J × Src) (k : List UInt8) (x : Src) (d i : Int) : bodyT (EO f k) 1 nfO (lp Tryz.prog fJson 3) (stO0 x d i) =
 bif decide (i < (4 : Int)) then
 T.bind (chanceF (srcOf (encs encByte (Src.l x)) (↑(Src.k x) : Int) (Src.s x)) (2 : Int)) fun y0 =>
 T.need
 [FnOK (Env.P (EO f k)) 52 [V.ptr 0 0, V.int IntKind.i64 (2 : Int)]
 [some ([V.dsl (List.length (Src.l x)) false (encs encByte (Src.l x)), V.int IntKind.i64 (↑(Src.k x) : Int), V.int IntKind.i64 (Src.s x)], 67)]
 (Ret.mk (V.bool (Prod.fst y0))
 [some ([V.dsl (List.length (Src.l (Prod.snd y0))) false (encs encByte (Src.l (Prod.snd y0))), V.int IntKind.i64 (↑(Src.k (Prod.snd y0)) : Int), V.int IntKind.i64 (Src.s (Prod.snd y0))], 67)]
 [0])]
 (bif Prod.fst y0 then
 T.need [(0 : Int) ≤ i ∧ i < (4 : Int)]
 (T.need [[V.str [97], V.str [98], V.str [107], V.str [122, 122]][0 + Int.toNat i * 1]? = some (V.str k)]
 (T.need [true = true, 0 = 0, 1 ≤ 9223372036854775807, 16 ≤ 140737488355328]
 (T.bind (f (srcOf (encs encByte (Src.l (Prod.snd y0))) (↑(Src.k (Prod.snd y0)) : Int) (Src.s (Prod.snd y0)))) fun y1 =>
 T.need
 [FnOK (Env.P (EO f k)) 33 [V.ptr 0 0, V.int IntKind.i64 (IntKind.wrap IntKind.i64 (d - (1 : Int)))]
 [some ([V.dsl (List.length (Src.l (Prod.snd y0))) false (encs encByte (Src.l (Prod.snd y0))), V.int IntKind.i64 (↑(Src.k (Prod.snd y0)) : Int), V.int IntKind.i64 (Src.s (Prod.snd y0))], 67)]
 (Ret.mk
 (V.agg
 [V.int IntKind.i64 (J.kind (Prod.fst y1)), V.int IntKind.i64 (J.n (Prod.fst y1)), V.str (J.t (Prod.fst y1)),
 V.dsl (List.length (J.keys (Prod.fst y1))) false (encs encStr (J.keys (Prod.fst y1))), V.dsl (List.length (J.items (Prod.fst y1))) false (encs encJ (J.items (Prod.fst y1)))])
 [some
 ([V.dsl (List.length (Src.l (Prod.snd y1))) false (encs encByte (Src.l (Prod.snd y1))), V.int IntKind.i64 (↑(Src.k (Prod.snd y1)) : Int), V.int IntKind.i64 (Src.s (Prod.snd y1))], 67)]
 [0])]
 (T.need [true = true, 0 = 0, 1 ≤ 9223372036854775807, 80 ≤ 140737488355328]
 (T.done
 (Ex.normal,
 St.mk
 (mkTm 87
 [(0, V.ptr 0 0), (1, V.int IntKind.i64 d), (4, V.ptr 1 0), (8, V.ptr 2 0),
 (9, V.int IntKind.i64 (IntKind.wrap IntKind.i64 (i + (1 : Int))))])
 [some
 ([V.dsl (List.length (Src.l (Prod.snd y1))) false (encs encByte (Src.l (Prod.snd y1))), V.int IntKind.i64 (↑(Src.k (Prod.snd y1)) : Int), V.int IntKind.i64 (Src.s (Prod.snd y1))],
 67),
 some ([V.int IntKind.i64 (0 : Int), V.int IntKind.i64 (0 : Int), V.str [], V.dsl 0 true [], V.dsl 0 true []], 25),
 some ([V.int IntKind.i64 (5 : Int), V.int IntKind.i64 (0 : Int), V.str [], V.sl 3 0 1 false, V.sl 4 0 1 false], 25),
 some ([V.sld [V.str k]], 9),
 some
 ([V.sld
 [V.int IntKind.i64 (J.kind (Prod.fst y1)), V.int IntKind.i64 (J.n (Prod.fst y1)), V.str (J.t (Prod.fst y1)),
 V.dsl (List.length (J.keys (Prod.fst y1))) false (encs encStr (J.keys (Prod.fst y1))), V.dsl (List.length (J.items (Prod.fst y1))) false (encs encJ (J.items (Prod.fst y1)))]],
 25)]
 [0]))))))
 else
 T.done
 (Ex.normal,
 St.mk
 (mkTm 87
 [(0, V.ptr 0 0), (1, V.int IntKind.i64 d), (4, V.ptr 1 0), (8, V.ptr 2 0),
 (9, V.int IntKind.i64 (IntKind.wrap IntKind.i64 (i + (1 : Int))))])
 [some ([V.dsl (List.length (Src.l (Prod.snd y0))) false (encs encByte (Src.l (Prod.snd y0))), V.int IntKind.i64 (↑(Src.k (Prod.snd y0)) : Int), V.int IntKind.i64 (Src.s (Prod.snd y0))], 67),
 some ([V.int IntKind.i64 (0 : Int), V.int IntKind.i64 (0 : Int), V.str [], V.dsl 0 true [], V.dsl 0 true []], 25),
 some ([V.int IntKind.i64 (5 : Int), V.int IntKind.i64 (0 : Int), V.str [], V.dsl 0 true [], V.dsl 0 true []], 25)]
 [0]))
 else
 T.done
 (Ex.exit 3,
 St.mk (mkTm 87 [(0, V.ptr 0 0), (1, V.int IntKind.i64 d), (4, V.ptr 1 0), (8, V.ptr 2 0), (9, V.int IntKind.i64 i)])
 [some ([V.dsl (List.length (Src.l x)) false (encs encByte (Src.l x)), V.int IntKind.i64 (↑(Src.k x) : Int), V.int IntKind.i64 (Src.s x)], 67),
 some ([V.int IntKind.i64 (0 : Int), V.int IntKind.i64 (0 : Int), V.str [], V.dsl 0 true [], V.dsl 0 true []], 25),
 some ([V.int IntKind.i64 (5 : Int), V.int IntKind.i64 (0 : Int), V.str [], V.dsl 0 true [], V.dsl 0 true []], 25)]
 [0]) := by kernel_rfl
set_option maxRecDepth 100000 in
theorem obj1T (f : Src → J × Src) (k : List UInt8) (x : Src) (d i : Int) (ks : List (List UInt8)) (L : List J) : bodyT (EO f k) 1 nfO (lp Tryz.prog fJson 3) (stO1 x d i ks L) =
 bif decide (i < (4 : Int)) then
 T.bind (chanceF (srcOf (encs encByte (Src.l x)) (↑(Src.k x) : Int) (Src.s x)) (2 : Int)) fun y0 =>
 T.need
 [FnOK (Env.P (EO f k)) 52 [V.ptr 0 0, V.int IntKind.i64 (2 : Int)]
 [some ([V.dsl (List.length (Src.l x)) false (encs encByte (Src.l x)), V.int IntKind.i64 (↑(Src.k x) : Int), V.int IntKind.i64 (Src.s x)], 67)]
 (Ret.mk (V.bool (Prod.fst y0))
 [some ([V.dsl (List.length (Src.l (Prod.snd y0))) false (encs encByte (Src.l (Prod.snd y0))), V.int IntKind.i64 (↑(Src.k (Prod.snd y0)) : Int), V.int IntKind.i64 (Src.s (Prod.snd y0))], 67)]
 [0])]
 (bif Prod.fst y0 then
 T.need [(0 : Int) ≤ i ∧ i < (4 : Int)]
 (T.need [[V.str [97], V.str [98], V.str [107], V.str [122, 122]][0 + Int.toNat i * 1]? = some (V.str k)]
 (T.need
 [0 = 0, List.length (encs encStr ks) = List.length ks * 1, List.length ks + 1 ≤ 9223372036854775807,
 (List.length ks + 1) * 16 ≤ 140737488355328]
 (T.bind (f (srcOf (encs encByte (Src.l (Prod.snd y0))) (↑(Src.k (Prod.snd y0)) : Int) (Src.s (Prod.snd y0)))) fun y1 =>
 T.need
 [FnOK (Env.P (EO f k)) 33 [V.ptr 0 0, V.int IntKind.i64 (IntKind.wrap IntKind.i64 (d - (1 : Int)))]
 [some ([V.dsl (List.length (Src.l (Prod.snd y0))) false (encs encByte (Src.l (Prod.snd y0))), V.int IntKind.i64 (↑(Src.k (Prod.snd y0)) : Int), V.int IntKind.i64 (Src.s (Prod.snd y0))], 67)]
 (Ret.mk
 (V.agg
 [V.int IntKind.i64 (J.kind (Prod.fst y1)), V.int IntKind.i64 (J.n (Prod.fst y1)), V.str (J.t (Prod.fst y1)),
 V.dsl (List.length (J.keys (Prod.fst y1))) false (encs encStr (J.keys (Prod.fst y1))), V.dsl (List.length (J.items (Prod.fst y1))) false (encs encJ (J.items (Prod.fst y1)))])
 [some
 ([V.dsl (List.length (Src.l (Prod.snd y1))) false (encs encByte (Src.l (Prod.snd y1))), V.int IntKind.i64 (↑(Src.k (Prod.snd y1)) : Int), V.int IntKind.i64 (Src.s (Prod.snd y1))], 67)]
 [0])]
 (T.need
 [0 = 0, List.length (encs encJ L) = List.length L * 5, List.length L + 1 ≤ 9223372036854775807,
 (List.length L + 1) * 80 ≤ 140737488355328]
 (T.done
 (Ex.normal,
 St.mk
 (mkTm 87
 [(0, V.ptr 0 0), (1, V.int IntKind.i64 d), (4, V.ptr 1 0), (8, V.ptr 2 0),
 (9, V.int IntKind.i64 (IntKind.wrap IntKind.i64 (i + (1 : Int))))])
 [some
 ([V.dsl (List.length (Src.l (Prod.snd y1))) false (encs encByte (Src.l (Prod.snd y1))), V.int IntKind.i64 (↑(Src.k (Prod.snd y1)) : Int), V.int IntKind.i64 (Src.s (Prod.snd y1))],
 67),
 some ([V.int IntKind.i64 (0 : Int), V.int IntKind.i64 (0 : Int), V.str [], V.dsl 0 true [], V.dsl 0 true []], 25),
 some
 ([V.int IntKind.i64 (5 : Int), V.int IntKind.i64 (0 : Int), V.str [], V.sl 3 0 (List.length ks + 1) false,
 V.sl 4 0 (List.length L + 1) false],
 25),
 some ([V.sld (encs encStr ks ++ [V.str k])], 9),
 some
 ([V.sld
 (encs encJ L ++
 [V.int IntKind.i64 (J.kind (Prod.fst y1)), V.int IntKind.i64 (J.n (Prod.fst y1)), V.str (J.t (Prod.fst y1)),
 V.dsl (List.length (J.keys (Prod.fst y1))) false (encs encStr (J.keys (Prod.fst y1))), V.dsl (List.length (J.items (Prod.fst y1))) false (encs encJ (J.items (Prod.fst y1)))])],
 25)]
 [0]))))))
 else
 T.done
 (Ex.normal,
 St.mk
 (mkTm 87
 [(0, V.ptr 0 0), (1, V.int IntKind.i64 d), (4, V.ptr 1 0), (8, V.ptr 2 0),
 (9, V.int IntKind.i64 (IntKind.wrap IntKind.i64 (i + (1 : Int))))])
 [some ([V.dsl (List.length (Src.l (Prod.snd y0))) false (encs encByte (Src.l (Prod.snd y0))), V.int IntKind.i64 (↑(Src.k (Prod.snd y0)) : Int), V.int IntKind.i64 (Src.s (Prod.snd y0))], 67),
 some ([V.int IntKind.i64 (0 : Int), V.int IntKind.i64 (0 : Int), V.str [], V.dsl 0 true [], V.dsl 0 true []], 25),
 some ([V.int IntKind.i64 (5 : Int), V.int IntKind.i64 (0 : Int), V.str [], V.sl 3 0 (List.length ks) false, V.sl 4 0 (List.length L) false], 25),
 some ([V.sld (encs encStr ks)], 9), some ([V.sld (encs encJ L)], 25)]
 [0]))
 else
 T.done
 (Ex.exit 3,
 St.mk (mkTm 87 [(0, V.ptr 0 0), (1, V.int IntKind.i64 d), (4, V.ptr 1 0), (8, V.ptr 2 0), (9, V.int IntKind.i64 i)])
 [some ([V.dsl (List.length (Src.l x)) false (encs encByte (Src.l x)), V.int IntKind.i64 (↑(Src.k x) : Int), V.int IntKind.i64 (Src.s x)], 67),
 some ([V.int IntKind.i64 (0 : Int), V.int IntKind.i64 (0 : Int), V.str [], V.dsl 0 true [], V.dsl 0 true []], 25),
 some ([V.int IntKind.i64 (5 : Int), V.int IntKind.i64 (0 : Int), V.str [], V.sl 3 0 (List.length ks) false, V.sl 4 0 (List.length L) false], 25),
 some ([V.sld (encs encStr ks)], 9), some ([V.sld (encs encJ L)], 25)]
 [0]) := by kernel_rfl

theorem flatC_strs (ks : List (List UInt8)) (k : List UInt8) : flatC [.sld (encs encStr ks), .str k] = encs encStr (ks ++ [k]) := by
  rw [encs_snoc]; simp [flatC, V.can, encStr]
theorem stO1_snoc (x : Src) (d i : Int) (ks : List (List UInt8)) (L : List J) (k : List UInt8) (j : J) : stO1 x d i (ks ++ [k]) (L ++ [j]) =
    ⟨mkTm 87 [(0, .ptr 0 0), (1, .int .i64 d), (4, .ptr 1 0), (8, .ptr 2 0), (9, .int .i64 i)], [srcB x, zJ, some ([.int .i64 5, .int .i64 0, .str [], .sl 3 0 (ks.length + 1) false, .sl 4 0 (L.length + 1) false], tJ), some ([.sld (flatC [.sld (encs encStr ks), .str k])], 9), some ([.sld (flatC (.sld (encs encJ L) :: vwJ j))], tJ)], [0]⟩ := by
  rw [flatC_snoc, flatC_strs]; simp [stO1, strB]
theorem obj_key {i : Nat} {k : List UInt8} {t : List (List UInt8)} (h : objKeys.drop i = k :: t) : [V.str [97], V.str [98], V.str [107], V.str [122, 122]][0 + ((i : Int)).toNat * 1]? = some (V.str k) := by
  have h1 : (objKeys.drop i)[0]? = some k := by rw [h]; rfl
  rw [List.getElem?_drop] at h1
  have h2 : (objKeys.map V.str)[i]? = some (V.str k) := by rw [List.getElem?_map]; simpa using congrArg (Option.map V.str) h1
  rw [Int.toNat_natCast, Nat.zero_add, Nat.mul_one]; exact h2
theorem obj_next {i : Nat} {k : List UInt8} {t : List (List UInt8)} (h : objKeys.drop i = k :: t) : objKeys.drop (i + 1) = t := by
  rw [← List.drop_drop, h]; rfl

theorem chanceF_ok {x : Src} {c : Nat} {n : Int} (h : x.OK (c + 3)) (hn : 1 ≤ n) : (chanceF x n).2.OK c := (nextF_ok h hn).1

theorem obj1_loop {f : Src → J × Src} {d : Nat} {q : Nat} (hf : Draw f d q) (hd : d ≤ 1000) : ∀ (t : List (List UInt8)) (i : Nat) (x : Src) (ks : List (List UInt8)) (L : List J) (c : Nat), objKeys.drop i = t → i + t.length = 4 → x.OK (c + t.length * (q + 3)) → ks.length ≤ i → L.length ≤ i →
    LoopTo Tryz.prog 1 (lp Tryz.prog fJson 3) (stO1 x ((d + 1 : Nat) : Int) i ks L) (.exit 3) (stO1 (drawObj f t x ks L).2.2 ((d + 1 : Nat) : Int) 4 (drawObj f t x ks L).1 (drawObj f t x ks L).2.1)
  | [], i, x, ks, L, c, h1, h2, h3, h4, h5 => by
    refine loopT (E := EO f []) follows named (obj1T f [] x _ _ ks L) ?_
    obtain rfl : i = 4 := by simpa using h2
    simp only [WP_cond, T.WP, All, decide_eq_true_eq, decide_eq_false_iff_not, and_true, beq_iff_eq, beq_eq_false_iff_ne, ne_eq, srcOf_mk]
    exact ⟨fun h => by omega, fun _ => ⟨rfl, rfl⟩⟩
  | k :: t, i, x, ks, L, c, h1, h2, h3, h4, h5 => by
    refine loopT (E := EO f k) follows named (obj1T f k x _ _ ks L) ?_
    simp only [List.length_cons] at h2 h3
    have hc : x.OK ((c + t.length * (q + 3) + q) + 3) := by
      refine h3.less ?_
      rw [Nat.add_mul, Nat.one_mul]; omega
    have hx := chanceF_ok (n := 2) hc (by omega)
    simp only [WP_cond, T.WP, All, decide_eq_true_eq, decide_eq_false_iff_not, and_true, beq_iff_eq, beq_eq_false_iff_ne, ne_eq, srcOf_mk]
    refine ⟨fun _ y e => ⟨by subst e; exact chance_ok x 2 hc (by omega), fun hy => ?_, fun hy => ?_⟩, fun h => by omega⟩
    · subst e
      refine ⟨by omega, obj_key h1, ⟨trivial, layStr.length _, by omega, by omega⟩, fun z e => ?_⟩
      subst e
      rw [wrap_id (by omega), show ((d + 1 : Nat) : Int) - 1 = d by omega]
      refine ⟨hf.call _ _ hx, ⟨trivial, layJ.length _, by omega, by omega⟩, ?_⟩
      rw [wrap_succ (by omega)]
      have ih := obj1_loop hf hd t (i + 1) (f (chanceF x 2).2).2 (ks ++ [k]) (L ++ [(f (chanceF x 2).2).1]) c (obj_next h1) (by omega) (hf.cost _ _ hx) (by simp; omega) (by simp; omega)
      rw [stO1_snoc] at ih
      simp only [drawObj, hy, if_true]
      exact ih
    · subst e
      rw [wrap_succ (by omega)]
      have ih := obj1_loop hf hd t (i + 1) (chanceF x 2).2 ks L c (obj_next h1) (by omega) (hx.less (by omega)) (by omega) (by omega)
      simp only [drawObj, hy, Bool.false_eq_true, if_false]
      exact ih

def stO (x : Src) (d i : Int) (ks : List (List UInt8)) (L : List J) : St := match ks with
  | [] => stO0 x d i
  | k :: ks => stO1 x d i (k :: ks) L
theorem stO_ne (x : Src) (d i : Int) (ks : List (List UInt8)) (L : List J) (h : ks ≠ []) : stO x d i ks L = stO1 x d i ks L := by
  cases ks with
  | nil => exact absurd rfl h
  | cons => rfl
theorem drawObj_ne {f : Src → J × Src} : ∀ (t : List (List UInt8)) (x : Src) (ks : List (List UInt8)) (L : List J), ks ≠ [] → (drawObj f t x ks L).1 ≠ []
  | [], _, _, _, h => h
  | k :: t, x, ks, L, h => by
    unfold drawObj
    split
    · exact drawObj_ne t _ _ _ (by simp)
    · exact drawObj_ne t _ _ _ h

theorem obj0_loop {f : Src → J × Src} {d : Nat} {q : Nat} (hf : Draw f d q) (hd : d ≤ 1000) : ∀ (t : List (List UInt8)) (i : Nat) (x : Src) (c : Nat), objKeys.drop i = t → i + t.length = 4 → x.OK (c + t.length * (q + 3)) →
    LoopTo Tryz.prog 1 (lp Tryz.prog fJson 3) (stO0 x ((d + 1 : Nat) : Int) i) (.exit 3) (stO (drawObj f t x [] []).2.2 ((d + 1 : Nat) : Int) 4 (drawObj f t x [] []).1 (drawObj f t x [] []).2.1)
  | [], i, x, c, h1, h2, h3 => by
    refine loopT (E := EO f []) follows named (obj0T f [] x _ _) ?_
    obtain rfl : i = 4 := by simpa using h2
    simp only [WP_cond, T.WP, All, decide_eq_true_eq, decide_eq_false_iff_not, and_true, beq_iff_eq, beq_eq_false_iff_ne, ne_eq, srcOf_mk]
    exact ⟨fun h => by omega, fun _ => ⟨rfl, rfl⟩⟩
  | k :: t, i, x, c, h1, h2, h3 => by
    refine loopT (E := EO f k) follows named (obj0T f k x _ _) ?_
    simp only [List.length_cons] at h2 h3
    have hc : x.OK ((c + t.length * (q + 3) + q) + 3) := by
      refine h3.less ?_
      rw [Nat.add_mul, Nat.one_mul]; omega
    have hx := chanceF_ok (n := 2) hc (by omega)
    simp only [WP_cond, T.WP, All, decide_eq_true_eq, decide_eq_false_iff_not, and_true, beq_iff_eq, beq_eq_false_iff_ne, ne_eq, srcOf_mk]
    refine ⟨fun _ y e => ⟨by subst e; exact chance_ok x 2 hc (by omega), fun hy => ?_, fun hy => ?_⟩, fun h => by omega⟩
    · subst e
      refine ⟨by omega, obj_key h1, by simp, fun z e => ?_⟩
      subst e
      rw [wrap_id (by omega), show ((d + 1 : Nat) : Int) - 1 = d by omega]
      refine ⟨hf.call _ _ hx, by simp, ?_⟩
      rw [wrap_succ (by omega)]
      have ih := obj1_loop hf hd t (i + 1) (f (chanceF x 2).2).2 ([] ++ [k]) ([] ++ [(f (chanceF x 2).2).1]) c (obj_next h1) (by omega) (hf.cost _ _ hx) (by simp) (by simp)
      rw [stO1_snoc] at ih
      simp only [drawObj, hy, if_true]
      rw [stO_ne _ _ _ _ _ (drawObj_ne _ _ _ _ (by simp))]
      exact ih
    · subst e
      rw [wrap_succ (by omega)]
      have ih := obj0_loop hf hd t (i + 1) (chanceF x 2).2 c (obj_next h1) (by omega) (hx.less (by omega))
      simp only [drawObj, hy, Bool.false_eq_true, if_false]
      exact ih

end Go.Proofs.YtfncaghjfgnnhaaGreatDoor

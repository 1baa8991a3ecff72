/-
  The small evaluator at inputs that are not known: what an operation comes to, and what is owed for it.
-/
import Derived.Test.YtlimecojoiimaaaGreatUq
namespace Go.Proofs.YtlimecojoiimaaaGreat
open Go.RowKit

/-- Elements of a type, laid out one behind the other. -/
def encs {α : Type} (enc : α → List V) (L : List α) : List V := L.flatMap enc
open Classical in
/-- What a row of cells is the layout of. -/
noncomputable def decL {α : Type} (enc : α → List V) (cs : List V) : List α := if h : ∃ L, encs enc L = cs then h.choose else []

/-- How an element reads: type, cells, place. -/
abbrev Vw := TypeId → List V → Nat → Option (List V)

/-- What an operation comes to. -/
inductive SO where
  | one (ps : List Prop) (o : Out)
  | two (c : Bool) (ps : List Prop) (o : Out) (qs : List Prop) (o' : Out)
  | no

def SO.OK (r : Option Out) : SO → Prop
  | .one ps o => All ps → r = some o
  | .two c ps o qs o' => (c = true → All ps → r = some o) ∧ (c = false → All qs → r = some o')
  | .no => True

def ofOpt : Option Out → SO
  | some o => .one [] o
  | none => .no
theorem ofOpt_ok (r : Option Out) : (ofOpt r).OK r := by
  cases r with
  | none => trivial
  | some o => exact fun _ => rfl

def sIndexAddr (P : Program) (vw : Vw) (hp : Hp) (t : TypeId) (x i : V) : SO :=
  match x, i, P.underlying t with
  | .dsl n _ cs, .int _ k, some (.slice el) => match szOf P el, vw el cs k.toNat with
    | some s, some v => .one [0 ≤ k ∧ k < n, (cs.drop (k.toNat * s)).take v.length = v] ⟨.dptr (v ++ cs.drop (k.toNat * s + v.length)), hp, [], []⟩
    | some s, none => .one [0 ≤ k ∧ k < n] ⟨.dptr (cs.drop (k.toNat * s)), hp, [], []⟩
    | _, _ => .no
  | .sl b off n _, .int _ k, some (.slice el) => match szOf P el with
    | some s => .one [0 ≤ k ∧ k < n] ⟨.ptr b (off + k.toNat * s), hp, [], []⟩
    | none => .no
  | _, _, _ => .no

def sIndex (P : Program) (hp : Hp) (t : TypeId) (x i : V) : SO :=
  match x, i, P.underlying t with
  | .str l, .int _ k, some .string => .one [0 ≤ k ∧ k < l.length] ⟨.int .u8 ((l.getD k.toNat 0).toNat : Nat), hp, [], []⟩
  | _, _, _ => .no

/-- A bound: what is owed, and the number. -/
def sBound (x : Option V) (d lim : Nat) : Option (List Prop × Nat) :=
  match x with
  | none => some ([], d)
  | some (.int _ i) => some ([0 ≤ i ∧ i ≤ lim], i.toNat)
  | _ => none

def sSlice (P : Program) (hp : Hp) (t : TypeId) (x : V) (lo hi mx : Option V) : SO :=
  match x, mx with
  | .str l, none =>
    match P.underlying t, sBound hi l.length l.length with
    | some .string, some (ps, h) => match sBound lo 0 h with
      | some (qs, k) => .one (ps ++ qs) ⟨.str ((l.take h).drop k), hp, [], []⟩
      | none => .no
    | _, _ => .no
  | .dsl n full cs, none =>
    match P.underlying t, sBound hi n n with
    | some (.slice e), some (ps, h) => match sBound lo 0 h, szOf P e with
      | some (qs, k), some s => .one (ps ++ qs) ⟨.dsl (h - k) (full && h == n) ((cs.take (h * s)).drop (k * s)), hp, [], []⟩
      | _, _ => .no
    | _, _ => .no
  | .sl b off n full, none =>
    match P.underlying t, sBound hi n n, hp[b]? with
    | some (.slice e), some (ps, h), some (some blk) => match sBound lo 0 h, szOf P e, blk.2 == e with
      | some (qs, k), some s, true =>
        match lo with
        | none => .one (ps ++ qs) ⟨.sl b off h (full && h == n), hp, [b], []⟩
        | some _ => .two (decide (k < h)) (ps ++ qs) ⟨.sl b (off + k * s) (h - k) (full && h == n), hp, [b], []⟩ (ps ++ qs) ⟨.dsl 0 (full && h == n) [], hp, [b], []⟩
      | _, _, _ => .no
    | _, _, _ => .no
  | .dsl n _ cs, some m =>
    match P.underlying t, sBound (some m) 0 n, hi with
    | some (.slice e), some (ps, m), some hi => match sBound (some hi) 0 m with
      | some (qs, h) => match sBound lo 0 h, szOf P e with
        | some (rs, k), some s => .one (ps ++ qs ++ rs) ⟨.dsl (h - k) (m == h) ((cs.take (h * s)).drop (k * s)), hp, [], []⟩
        | _, _ => .no
      | none => .no
    | _, _, _ => .no
  | x, mx => ofOpt (evSlice P hp t x lo hi mx)

/-- What is appended. -/
def sSrc (hp : Hp) (size : Nat) : V → Option (List Prop × List Nat × Nat × List V)
  | .dsl m _ cs => some ([cs.length = m * size, cs.all V.one = true], [], m, [.sld cs])
  | .sl b off m full =>
    match hp[b]? with
    | some (some blk) => match hasSeal blk.1 with
      | true => some ([off = 0, (flat blk.1).length = m * size, (flat blk.1).all V.one = true], [b], m, blk.1)
      | false => match srcV hp size (.sl b off m full) with
        | some (bs, m, news) => some ([], bs, m, news)
        | none => none
    | _ => none
  | _ => none

def sAppend (P : Program) (hp : Hp) (t t' : TypeId) (s x : V) : SO :=
  match P.underlying t with
  | some (.slice elem) =>
    match P.info? elem with
    | some i =>
      match i.zero, t == t' with
      | some z, true =>
        match decide (0 < i.size ∧ z.cells.size = i.size), sSrc hp i.size x with
        | true, some (ps, bs, m, news) =>
          match s with
          | .sl b off n _ =>
            match hp[b]? with
            | some (some blk) =>
              match blk.2 == elem with
              | true => .one (ps ++ [off = 0, (flat blk.1).length = n * i.size, n + m ≤ maxLen, (n + m) * i.bytes ≤ 140737488355328])
                  ⟨.sl hp.length 0 (n + m) false, hp.set b none ++ [some (blk.1 ++ news, elem)], b :: bs, [b]⟩
              | false => .no
            | _ => .no
          | .dsl n full cs =>
            .two (m == 0) ps ⟨.dsl n full cs, hp, bs, []⟩ (ps ++ [full = true, cs.length = n * i.size, n + m ≤ maxLen, (n + m) * i.bytes ≤ 140737488355328])
              ⟨.sl hp.length 0 (n + m) false, hp ++ [some (.sld cs :: news, elem)], bs, []⟩
          | _ => .no
        | _, _ => .no
      | _, _ => .no
    | none => .no
  | _ => .no

/-- One-level struct equality. -/
def sEqs (P : Program) (xs ys : List V) : List Field → Option Bool
  | [] => some true
  | f :: fs =>
    match f.name == "_", xs[f.offset]?, ys[f.offset]? with
    | false, some x, some y =>
      match flatEq P f x y, sEqs P xs ys fs with
      | some a, some b => some (a && b)
      | _, _ => none
    | _, _, _ => none

def sBin (P : Program) (hp : Hp) (op : BinOp) (t : TypeId) (x y : V) : SO :=
  match x, y with
  | .str a, .str b => match op with
    | .add => .one [a.length + b.length ≤ 4611686018427387904] ⟨.str (a ++ b), hp, [], []⟩
    | op => ofOpt ((evStr op a b).map fun v => ⟨v, hp, [], []⟩)
  | .int k a, .int k' b => match op with
    | .quo => match decide (k = k') with
      | true => .one [b ≠ 0] ⟨.int k (k.wrap (a.tdiv b)), hp, [], []⟩
      | false => .no
    | .rem => match decide (k = k') with
      | true => .one [b ≠ 0] ⟨.int k (a.tmod b), hp, [], []⟩
      | false => .no
    | op => ofOpt ((evBin P op t (.int k a) (.int k' b)).map fun v => ⟨v, hp, [], []⟩)
  | .agg xs, .agg ys => match P.underlying t, P.stoodInHeld t, P.eqGuardType P.depth t, op with
    | some (.struct fs), false, false, .eql => match sEqs P xs ys fs.toList with
      | some r => .one [] ⟨.bool r, hp, [], []⟩
      | none => .no
    | some (.struct fs), false, false, .neq => match sEqs P xs ys fs.toList with
      | some r => .one [] ⟨.bool (!r), hp, [], []⟩
      | none => .no
    | _, _, _, _ => .no
  | x, y => ofOpt ((evBin P op t x y).map fun v => ⟨v, hp, [], []⟩)

def encByte (b : UInt8) : List V := [.int .u8 (b.toNat : Nat)]
def byts (l : List UInt8) : List V := l.map fun b => V.int .u8 (b.toNat : Nat)

/-- The bytes that pieces hold, and what is owed. -/
noncomputable def bytesSeg : List V → Option (List Prop × List UInt8)
  | [] => some ([], [])
  | x :: t => match x, bytesSeg t with
    | .sld c, some (ps, l) => some ((c = byts (decL encByte c)) :: ps, decL encByte c ++ l)
    | .int .u8 n, some (ps, l) => some ((0 ≤ n ∧ n < 256) :: ps, UInt8.ofNat n.toNat :: l)
    | _, _ => none

noncomputable def sConv (P : Program) (hp : Hp) (s d : TypeId) (x : V) : SO :=
  match x with
  | .dsl n _ cs => match P.underlying s, P.underlying d with
    | some (.slice e), some .string => match P.underlying e with
      | some (.int .u8) => .one [cs = byts (decL encByte cs), (decL encByte cs).length = n] ⟨.str (decL encByte cs), hp, [], []⟩
      | _ => .no
    | _, _ => .no
  | .sl b off n full => match P.underlying s, P.underlying d with
    | some (.slice e), some .string => match P.underlying e, hp[b]? with
      | some (.int .u8), some (some blk) => match bytesSeg blk.1 with
        | some (ps, l) => .one (ps ++ [off = 0, l.length = n]) ⟨.str l, hp, [b], []⟩
        | none => .no
      | _, _ => .no
    | _, _ => .no
  | .str l => match P.underlying s, P.underlying d with
    | some .string, some (.slice e) => match P.underlying e, P.info? e with
      | some (.int .u8), some i => match decide (i.size = 1) with
        | true => .one [l.length ≤ maxLen] ⟨.sl hp.length 0 l.length false, hp ++ [some ([.sld (byts l)], e)], [], []⟩
        | false => .no
      | _, _ => .no
    | _, _ => ofOpt (evConv P hp s d (.str l))
  | x => ofOpt (evConv P hp s d x)

def sMake (P : Program) (hp : Hp) (t : TypeId) (l c : V) : SO :=
  match l, c with
  | .int _ l, .int _ c =>
    match P.underlying t with
    | some (.slice elem) =>
      match P.info? elem with
      | some i =>
        match i.zero with
        | some z =>
          match decide (i.bytes ≤ 1048576 ∧ 0 < i.size ∧ z.cells.size = i.size) with
          | true => .one [0 ≤ l ∧ l ≤ c ∧ c ≤ 1048576] ⟨.sl hp.length 0 l.toNat (l == c), hp ++ [some ([.sld (zeros (z.cells.toList.map ofScalar) (c.toNat * i.size))], elem)], [], []⟩
          | false => .no
        | none => .no
      | none => .no
    | _ => .no
  | _, _ => .no

def sLoad (P : Program) (vw : Vw) (hp : Hp) (t : TypeId) (x : V) : SO :=
  match x with
  | .ptr b o => match hp[b]? with
    | some (some blk) => match hasSeal blk.1 with
      | true => match P.underlying t, szOf P t with
        | some d, some s => match vw t (flat blk.1) (o / s) with
          | some v => match v.length == s, rowD d, v with
            | true, true, v => .one [((flat blk.1).drop o).take s = v] ⟨.agg v, hp, [b], []⟩
            | true, false, [c] => .one [((flat blk.1).drop o).take s = [c]] ⟨c, hp, [b], []⟩
            | _, _, _ => .no
          | none => ofOpt (evLoad P hp t (.ptr b o))
        | _, _ => .no
      | false => ofOpt (evLoad P hp t (.ptr b o))
    | _ => .no
  | x => ofOpt (evLoad P hp t x)

def sStore (P : Program) (hp : Hp) (t : TypeId) (x y : V) : SO :=
  match x with
  | .ptr b o => match hp[b]? with
    | some (some blk) => match hasSeal blk.1 with
      | true => match szOf P t with
        | some s => match y.flat, decide ((cellsV y).length = s), (cellsV y).all V.one, V.refsL blk.1 with
          | true, true, true, [] => .one [o + s ≤ (flat blk.1).length] ⟨.junk, hp.set b (some (.sld ((flat blk.1).take o) :: (cellsV y ++ [.sld ((flat blk.1).drop (o + s))]), blk.2)), [b], [b]⟩
          | _, _, _, _ => .no
        | none => .no
      | false => ofOpt (evStore P hp t (.ptr b o) y)
    | _ => .no
  | x => ofOpt (evStore P hp t x y)

noncomputable def evOpS (P : Program) (vw : Vw) (e : Operand → V) (hp : Hp) : Op → SO
  | .indexAddr t x i => sIndexAddr P vw hp t (e x) (e i)
  | .index t x i => sIndex P hp t (e x) (e i)
  | .slice t x lo hi mx => sSlice P hp t (e x) (lo.map e) (hi.map e) (mx.map e)
  | .binOp op t x y _ => sBin P hp op t (e x) (e y)
  | .convert s d x => sConv P hp s d (e x)
  | .makeSlice t l c => sMake P hp t (e l) (e c)
  | .load t x => sLoad P vw hp t (e x)
  | .store t x y => sStore P hp t (e x) (e y)
  | .pick c a b => match e c with
    | .bool t => .two t [] ⟨e a, hp, [], []⟩ [] ⟨e b, hp, [], []⟩
    | _ => .no
  | .call c => match c.callee, c.args.toList, c.argTypes.toList with
    | .builtin .append, [s, x], [t, t'] => sAppend P hp t t' (e s) (e x)
    | _, _, _ => ofOpt (evPlain P e hp (.call c))
  | op => ofOpt (evPlain P e hp op)

section
variable {P : Program} {vw : Vw} {hp : Hp}

theorem take_len {α : Type} {cs v : List α} {k : Nat} (h : (cs.drop k).take v.length = v) : cs.drop k = v ++ cs.drop (k + v.length) := by
  conv => lhs; rw [← List.take_append_drop v.length (cs.drop k)]
  rw [h, List.drop_drop]

theorem sBound_ok {x : Option V} {d lim : Nat} {ps : List Prop} {k : Nat} (h : sBound x d lim = some (ps, k)) (ha : All ps) : evBound x d lim = some k := by
  unfold sBound at h
  split at h
  · cases h; rfl
  · cases h
    simp only [evBound]
    rw [if_pos ha.1]
  · cases h

theorem sIndexAddr_ok {e : Operand → V} {t : TypeId} {x i : Operand} : (sIndexAddr P vw hp t (e x) (e i)).OK (evPlain P e hp (.indexAddr t x i)) := by
  generalize h : sIndexAddr P vw hp t (e x) (e i) = so
  unfold sIndexAddr at h
  split at h
  · rename_i n full cs kk k el hx hi hu
    split at h
    · rename_i s v hs hv
      subst h; intro ha
      simp only [evPlain, hx, hi, hu, hs]
      rw [if_pos ha.1, take_len ha.2.1]
    · rename_i s hs hv
      subst h; intro ha
      simp only [evPlain, hx, hi, hu, hs]
      rw [if_pos ha.1]
    · subst h; trivial
  · rename_i b off n full kk k el hx hi hu
    split at h
    · rename_i s hs
      subst h; intro ha
      simp only [evPlain, hx, hi, hu, hs]
      rw [if_pos ha.1]
    · subst h; trivial
  · subst h; trivial

theorem sIndex_ok {e : Operand → V} {t : TypeId} {x i : Operand} : (sIndex P hp t (e x) (e i)).OK (evPlain P e hp (.index t x i)) := by
  generalize h : sIndex P hp t (e x) (e i) = so
  unfold sIndex at h
  split at h
  · rename_i l kk k hx hi hu
    subst h; intro ha
    obtain ⟨⟨h1, h2⟩, _⟩ := ha
    simp only [evPlain, hx, hi, evIndex, hu]
    rw [if_pos h1, List.getElem?_eq_getElem (by omega)]
    simp only [Option.map_some]
    rw [List.getD_eq_getElem?_getD, List.getElem?_eq_getElem (by omega)]
    rfl
  · subst h; trivial

theorem sSlice_ok {t : TypeId} {x : V} {lo hi mx : Option V} : (sSlice P hp t x lo hi mx).OK (evSlice P hp t x lo hi mx) := by
  generalize h : sSlice P hp t x lo hi mx = so
  unfold sSlice at h
  split at h
  · split at h
    · rename_i hu hh
      split at h
      · rename_i hk
        subst h; intro ha
        obtain ⟨h1, h2⟩ := All.append ha
        simp only [evSlice, hu, sBound_ok hh h1, sBound_ok hk h2]
      · subst h; trivial
    · subst h; trivial
  · split at h
    · rename_i hu hh
      split at h
      · rename_i hk hs
        subst h; intro ha
        obtain ⟨h1, h2⟩ := All.append ha
        simp only [evSlice, hu, sBound_ok hh h1, sBound_ok hk h2, hs]
      · subst h; trivial
    · subst h; trivial
  · split at h
    · rename_i hu hh hb
      split at h
      · rename_i hk hs he
        split at h
        · subst h; intro ha
          obtain ⟨h1, h2⟩ := All.append ha
          simp only [evSlice, hu, sBound_ok hh h1, sBound_ok hk h2, hs, hb, he]
        · subst h; refine ⟨fun hc ha => ?_, fun hc ha => ?_⟩
          · obtain ⟨h1, h2⟩ := All.append ha
            simp only [evSlice, hu, sBound_ok hh h1, sBound_ok hk h2, hs, hb, he]
            rw [if_pos (by simpa using hc)]
          · obtain ⟨h1, h2⟩ := All.append ha
            simp only [evSlice, hu, sBound_ok hh h1, sBound_ok hk h2, hs, hb, he]
            rw [if_neg (by simpa using hc)]
      · subst h; trivial
    · subst h; trivial
  · split at h
    · rename_i hu hm
      split at h
      · rename_i hh
        split at h
        · rename_i hk hs
          subst h; intro ha
          obtain ⟨h12, h3⟩ := All.append ha
          obtain ⟨h1, h2⟩ := All.append h12
          simp only [evSlice, hu, sBound_ok hm h1, sBound_ok hh h2, sBound_ok hk h3, hs]
        · subst h; trivial
      · subst h; trivial
    · subst h; trivial
  · subst h; exact ofOpt_ok _

theorem flat_sealed (c : List V) : flat [.sld c] = c := by simp [flat]

theorem sSrc_ok {size : Nat} {x : V} {ps : List Prop} {bs : List Nat} {m : Nat} {news : List V} (h : sSrc hp size x = some (ps, bs, m, news)) (ha : All ps) : srcV hp size x = some (bs, m, news) := by
  unfold sSrc at h
  split at h
  · cases h
    obtain ⟨h1, h2, _⟩ := ha
    have e : ∀ cs : List V, cs.length = m * size → cs.take (m * size) = cs := fun cs h => List.take_of_length_le (by omega)
    simp only [srcV]
    rw [e _ h1, if_pos ⟨h1, h2⟩]
  · rename_i b off m' full
    split at h
    · rename_i blk hb
      split at h
      · cases h
        obtain ⟨h1, h2, h3, _⟩ := ha
        subst h1
        unfold srcV
        have e : ((flat blk.1).drop 0).take (m * size) = flat blk.1 := by rw [List.drop_zero, List.take_of_length_le (by omega)]
        simp only [hb]
        rw [e, if_pos ⟨h2, h3⟩]
        unfold cutV
        rw [if_pos ⟨rfl, h2⟩]
      · split at h
        · rename_i hs; cases h; exact hs
        · cases h
    · cases h
  · cases h

theorem sAppend_ok {t t' : TypeId} {s x : V} : (sAppend P hp t t' s x).OK (evAppend P hp t t' s x) := by
  generalize h : sAppend P hp t t' s x = so
  unfold sAppend at h
  split at h
  · rename_i elem hu
    split at h
    · rename_i i hi
      split at h
      · rename_i z hz ht
        split at h
        · rename_i ps bs m news hc hs
          have hc' := of_decide_eq_true hc
          split at h
          · rename_i b off n full
            split at h
            · rename_i blk hb
              split at h
              · rename_i he
                subst h; intro ha
                obtain ⟨h1, h2⟩ := All.append ha
                obtain ⟨h3, h4, h5, h6, _⟩ := h2
                subst h3
                unfold evAppend
                simp only [hu, hi, hz, ht, sSrc_ok hs h1, hb]
                have e : ((flat blk.1).drop 0).take (n * i.size) = flat blk.1 := by rw [List.drop_zero, List.take_of_length_le (by omega)]
                rw [if_pos hc', e, if_pos ⟨h4, h5, h6, eq_of_beq he, trivial⟩]
                unfold cutV
                rw [if_pos ⟨rfl, h4⟩]
              · subst h; trivial
            · subst h; trivial
          · rename_i n full cs
            subst h; refine ⟨fun hm ha => ?_, fun hm ha => ?_⟩
            · have hm' : m = 0 := by simpa using hm
              subst hm'
              unfold evAppend
              simp only [hu, hi, hz, ht, sSrc_ok hs ha]
              rw [if_pos hc']
            · obtain ⟨h1, h2⟩ := All.append ha
              obtain ⟨h3, h4, h5, h6, _⟩ := h2
              have hm' : m ≠ 0 := by simpa using hm
              obtain ⟨m', rfl⟩ := Nat.exists_eq_succ_of_ne_zero hm'
              unfold evAppend
              simp only [hu, hi, hz, ht, sSrc_ok hs h1]
              have e : cs.take (n * i.size) = cs := List.take_of_length_le (by omega)
              rw [if_pos hc', e, if_pos ⟨h3, h4, h5, h6⟩]
          · subst h; trivial
        · subst h; trivial
      · subst h; trivial
    · subst h; trivial
  · subst h; trivial

theorem sEqs_ok {xs ys : List V} : ∀ {fs : List Field} {r : Bool}, sEqs P xs ys fs = some r → flatEqs P xs ys fs = some r
  | [], _, h => h
  | f :: fs, r, h => by
    unfold sEqs at h
    split at h
    · rename_i x y hn hx hy
      split at h
      · rename_i a b ha hb
        cases h
        unfold flatEqs
        have hn' : f.name ≠ "_" := by simpa using hn
        rw [if_neg hn', hx, hy]
        simp only [ha]
        cases a with
        | true => simpa using sEqs_ok hb
        | false => rfl
      · cases h
    · cases h

theorem sBin_ok {op : BinOp} {t : TypeId} {x y : V} : (sBin P hp op t x y).OK ((evBin P op t x y).map fun v => ⟨v, hp, [], []⟩) := by
  generalize h : sBin P hp op t x y = so
  unfold sBin at h
  split at h
  · split at h
    · subst h; intro ha
      simp only [evBin, evStr]
      rw [if_pos ha.1]; rfl
    · subst h; exact ofOpt_ok _
  · split at h
    · split at h
      · rename_i hk
        have hk' := of_decide_eq_true hk
        subst h; intro ha
        simp only [evBin, evInt]
        rw [if_pos hk', if_neg ha.1]; rfl
      · subst h; trivial
    · split at h
      · rename_i hk
        have hk' := of_decide_eq_true hk
        subst h; intro ha
        simp only [evBin, evInt]
        rw [if_pos hk', if_neg ha.1]; rfl
      · subst h; trivial
    · subst h; exact ofOpt_ok _
  · split at h
    · rename_i fs hu h1 h2
      split at h
      · rename_i r hr
        subst h; intro _
        simp only [evBin, hu, h1, h2, sEqs_ok hr, Option.map_some]
      · subst h; trivial
    · rename_i fs hu h1 h2
      split at h
      · rename_i r hr
        subst h; intro _
        simp only [evBin, hu, h1, h2, sEqs_ok hr, Option.map_some]
      · subst h; trivial
    · subst h; trivial
  · subst h; exact ofOpt_ok _

theorem bytesV_byts : ∀ l : List UInt8, bytesV (byts l) = some l
  | [] => rfl
  | b :: l => by
    have ih := bytesV_byts l
    simp only [byts, List.map_cons, bytesV] at ih ⊢
    rw [if_pos ⟨by omega, by have := b.toNat_lt; omega⟩, ih]
    simp

theorem bytesSeg_ok : ∀ {l : List V} {ps : List Prop} {bs : List UInt8}, bytesSeg l = some (ps, bs) → All ps → flat l = byts bs
  | [], _, _, h, _ => by cases h; rfl
  | x :: t, _, _, h, ha => by
    unfold bytesSeg at h
    split at h
    · rename_i c ps l ht
      cases h
      rw [flat_seal, bytesSeg_ok ht ha.2]
      have := ha.1
      rw [show byts (decL encByte c ++ l) = byts (decL encByte c) ++ byts l by simp [byts], ← this]
    · rename_i n ps l ht
      cases h
      rw [flat_cons (fun c e => by cases e), bytesSeg_ok ht ha.2]
      obtain ⟨h0, h1⟩ := ha.1
      have e : ((UInt8.ofNat n.toNat).toNat : Int) = n := by
        rw [UInt8.toNat_ofNat']; omega
      simp only [byts, List.map_cons, e]
    · cases h

theorem sConv_ok {s d : TypeId} {x : V} : (sConv P hp s d x).OK (evConv P hp s d x) := by
  generalize h : sConv P hp s d x = so
  unfold sConv at h
  split at h
  · rename_i n full cs
    split at h
    · rename_i e hs hd
      split at h
      · rename_i he
        subst h; intro ha
        obtain ⟨h1, h2, _⟩ := ha
        simp only [evConv, hs, hd, he]
        generalize hl : decL encByte cs = l at h1 h2
        subst h1
        have hlen : (byts l).length = n := by simpa [byts] using h2
        have e1 : (byts l).take n = byts l := List.take_of_length_le (by omega)
        rw [e1, if_pos hlen, bytesV_byts]
      · subst h; trivial
    · subst h; trivial
  · rename_i b off n full
    split at h
    · rename_i e hs hd
      split at h
      · rename_i blk he hb
        split at h
        · rename_i ps l hl
          subst h; intro ha
          obtain ⟨h0, h1, h2, _⟩ := All.append ha
          subst h1
          have hf := bytesSeg_ok hl h0
          simp only [evConv, hs, hd, he, hb]
          have hlen : (byts l).length = n := by simpa [byts] using h2
          rw [hf, List.drop_zero]
          have e1 : (byts l).take n = byts l := List.take_of_length_le (by omega)
          rw [e1, if_pos hlen, bytesV_byts]
        · subst h; trivial
      · subst h; trivial
    · subst h; trivial
  · rename_i l
    split at h
    · rename_i e hs hd
      split at h
      · rename_i i he hi
        split at h
        · rename_i hz
          subst h; intro ha
          simp only [evConv, hs, hd, he, hi]
          rw [if_pos ⟨ha.1, of_decide_eq_true hz⟩]
          rfl
        · subst h; trivial
      · subst h; trivial
    · subst h; exact ofOpt_ok _
  · subst h; exact ofOpt_ok _

theorem sMake_ok {t : TypeId} {l c : V} : (sMake P hp t l c).OK (evMakeSlice P hp t l c) := by
  generalize h : sMake P hp t l c = so
  unfold sMake at h
  split at h
  · split at h
    · rename_i elem hu
      split at h
      · rename_i i hi
        split at h
        · rename_i z hz
          split at h
          · rename_i hc
            have hc' := of_decide_eq_true hc
            subst h; intro ha
            obtain ⟨⟨h1, h2, h3⟩, _⟩ := ha
            simp only [evMakeSlice, hu, hi, hz]
            rw [if_pos ⟨h1, h2, h3, hc'⟩]
          · subst h; trivial
        · subst h; trivial
      · subst h; trivial
    · subst h; trivial
  · subst h; trivial

theorem sLoad_ok {t : TypeId} {x : V} : (sLoad P vw hp t x).OK (evLoad P hp t x) := by
  generalize h : sLoad P vw hp t x = so
  unfold sLoad at h
  split at h
  · rename_i b o
    split at h
    · rename_i blk hb
      split at h
      · split at h
        · rename_i d s hu hs
          split at h
          · rename_i v hv
            split at h
            · rename_i hl hr
              subst h; intro ha
              obtain ⟨h1, _⟩ := ha
              simp only [evLoad, hb, hu, hs, hl]
              rw [h1, if_pos (by simpa using hr)]
            · rename_i c hl hr
              subst h; intro ha
              obtain ⟨h1, _⟩ := ha
              have hl' : 1 = s := by simpa using hr
              subst hl'
              simp only [evLoad, hb, hu, hs, hl]
              have : (flat blk.1)[o]? = some c := by
                have h2 : (((flat blk.1).drop o).take 1)[0]? = some c := by rw [h1]; rfl
                rw [List.getElem?_take, if_pos (by omega), List.getElem?_drop] at h2
                simpa using h2
              rw [this]
            · subst h; trivial
          · subst h; exact ofOpt_ok _
        · subst h; trivial
      · subst h; exact ofOpt_ok _
    · subst h; trivial
  · subst h; exact ofOpt_ok _

theorem sStore_ok {t : TypeId} {x y : V} : (sStore P hp t x y).OK (evStore P hp t x y) := by
  generalize h : sStore P hp t x y = so
  unfold sStore at h
  split at h
  · rename_i b o
    split at h
    · rename_i blk hb
      split at h
      · rename_i hseal
        split at h
        · rename_i s hs
          split at h
          · rename_i h1 h2 h3 h4
            subst h; intro ha
            obtain ⟨h5, _⟩ := ha
            simp only [evStore, hb, hs]
            rw [if_pos ⟨h1, of_decide_eq_true h2, h3, h5⟩]
            simp only [spliceV, hseal, h4]
          · subst h; trivial
        · subst h; trivial
      · subst h; exact ofOpt_ok _
    · subst h; trivial
  · subst h; exact ofOpt_ok _

theorem opS_ok {e : Operand → V} (op : Op) : (evOpS P vw e hp op).OK (evPlain P e hp op) := by
  unfold evOpS
  split
  · exact sIndexAddr_ok
  · exact sIndex_ok
  · exact sSlice_ok
  · exact sBin_ok
  · exact sConv_ok
  · exact sMake_ok
  · exact sLoad_ok
  · exact sStore_ok
  · rename_i c a b
    cases hc : e c with
    | bool t => exact ⟨fun h _ => by simp only [evPlain, hc, h]; rfl, fun h _ => by simp only [evPlain, hc, h]; rfl⟩
    | _ => trivial
  · rename_i c
    generalize h : (match c.callee, c.args.toList, c.argTypes.toList with
      | .builtin .append, [s, x], [t, t'] => sAppend P hp t t' (e s) (e x)
      | _, _, _ => ofOpt (evPlain P e hp (.call c))) = so
    split at h
    · rename_i s x t t' h1 h2 h3
      subst h
      simp only [evPlain, h1, h2, h3]
      exact sAppend_ok
    · subst h; exact ofOpt_ok _
  · exact ofOpt_ok _

end
end Go.Proofs.YtlimecojoiimaaaGreat

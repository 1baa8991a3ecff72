/-
  The small evaluator: its plain operations.
-/
import Derived.Test.YtlimecojoiimaaaGreatUa
namespace Go.Proofs.YtlimecojoiimaaaGreat
open Go.RowKit

structure Out where
  v : V
  hp : Hp
  acc : List Nat
  wr : List Nat

def rowD : TypeDesc → Bool
  | .struct _ | .array _ _ => true
  | _ => false
def szOf (P : Program) (t : TypeId) : Option Nat := (P.info? t).map (·.size)
def cellsV : V → List V
  | .agg cs => cs
  | c => [c]
def V.flat : V → Bool
  | .agg _ => true
  | c => c.one

def evLoad (P : Program) (hp : Hp) (t : TypeId) : V → Option Out
  | .ptr b off =>
    match hp[b]?, P.underlying t, szOf P t with
    | some (some blk), some d, some s =>
      match rowD d with
      | true => if (((flat blk.1).drop off).take s).length = s then some ⟨.agg (((flat blk.1).drop off).take s), hp, [b], []⟩ else none
      | false => match (flat blk.1)[off]? with
        | some c => some ⟨c, hp, [b], []⟩
        | none => none
    | _, _, _ => none
  | .dptr cs =>
    match P.underlying t, szOf P t with
    | some d, some s =>
      match rowD d with
      | true => if (cs.take s).length = s then some ⟨.agg (cs.take s), hp, [], []⟩ else none
      | false => match cs with
        | c :: _ => some ⟨c, hp, [], []⟩
        | [] => none
    | _, _ => none
  | _ => none

/-- New cells in the place of old ones; pieces that are sealed stay sealed. -/
def spliceV (l : List V) (off s : Nat) (new : List V) : Option (List V) :=
  match hasSeal l with
  | false => some (l.take off ++ new ++ l.drop (off + s))
  | true => match V.refsL l with
    | [] => some (.sld ((flat l).take off) :: (new ++ [.sld ((flat l).drop (off + s))]))
    | _ => none
def evStore (P : Program) (hp : Hp) (t : TypeId) (x y : V) : Option Out :=
  match x with
  | .ptr b off =>
    match hp[b]?, szOf P t with
    | some (some blk), some s =>
      if y.flat = true ∧ (cellsV y).length = s ∧ (cellsV y).all V.one = true ∧ off + s ≤ (flat blk.1).length then
        match spliceV blk.1 off s (cellsV y) with
        | some l => some ⟨.junk, hp.set b (some (l, blk.2)), [b], [b]⟩
        | none => none
      else none
    | _, _ => none
  | _ => none

def evAlloc (P : Program) (hp : Hp) (t : TypeId) : Option Out :=
  match (P.info? t).bind (·.zero) with
  | some z => some ⟨.ptr hp.length 0, hp ++ [some (z.cells.toList.map ofScalar, t)], [], []⟩
  | none => none
def evBox (hp : Hp) (t : TypeId) (x : V) : Option Out :=
  if x.flat = true then some ⟨.ptr hp.length 0, hp ++ [some (cellsV x, t)], [], []⟩ else none

def fillV (place : Nat → Option (Nat × Nat)) (cells : List V) : List (Nat × V) → Option (List V)
  | [] => some cells
  | (i, x) :: rest =>
    match place i with
    | none => none
    | some (off, size) =>
      if x.flat = true ∧ (cellsV x).length = size ∧ off + size ≤ cells.length then fillV place (cells.take off ++ cellsV x ++ cells.drop (off + size)) rest
      else none

def evBuild (P : Program) (hp : Hp) (t : TypeId) (ps : List (Nat × V)) : Option Out :=
  match P.info? t, P.underlying t with
  | some it, some (.struct fields) =>
    match it.zero, fields.toList.mapM (fun f => (P.info? f.type).map fun i => (f.offset, i.size)) with
    | some z, some places =>
      match fillV (places[·]?) (z.cells.toList.map ofScalar) ps with
      | some cells => some ⟨.agg cells, hp, [], []⟩
      | none => none
    | _, _ => none
  | _, _ => none

def zeros (z : List V) (n : Nat) : List V := (List.range n).map fun i => z.getD (i % z.length) .junk

def evBuildSlice (P : Program) (hp : Hp) (t : TypeId) (n : Nat) (ps : List (Nat × V)) : Option Out :=
  match P.underlying t with
  | some (.slice elem) =>
    match P.info? elem with
    | some i =>
      match i.zero with
      | some z =>
        if n * i.size ≤ 16777216 ∧ 0 < i.size ∧ z.cells.size = i.size then
          match fillV (fun k => some (k * i.size, i.size)) (zeros (z.cells.toList.map ofScalar) (n * i.size)) ps with
          | some cells => some ⟨.sl hp.length 0 n true, hp ++ [some (cells, elem)], [], []⟩
          | none => none
        else none
      | none => none
    | none => none
  | _ => none

def evMakeSlice (P : Program) (hp : Hp) (t : TypeId) : V → V → Option Out
  | .int _ l, .int _ c =>
    match P.underlying t with
    | some (.slice elem) =>
      match P.info? elem with
      | some i =>
        match i.zero with
        | some z =>
          if 0 ≤ l ∧ l ≤ c ∧ c ≤ 1048576 ∧ i.bytes ≤ 1048576 ∧ 0 < i.size ∧ z.cells.size = i.size then
            some ⟨.sl hp.length 0 l.toNat (l == c), hp ++ [some ([.sld (zeros (z.cells.toList.map ofScalar) (c.toNat * i.size))], elem)], [], []⟩
          else none
        | none => none
      | none => none
    | _ => none
  | _, _ => none

/-- A part of some pieces. -/
def cutV (l : List V) (off k : Nat) : List V := if off = 0 ∧ (flat l).length = k then l else ((flat l).drop off).take k

/-- What a slice that is appended holds: its blocks, how many elements, their cells. -/
def srcV (hp : Hp) (size : Nat) : V → Option (List Nat × Nat × List V)
  | .sl b off m _ =>
    match hp[b]? with
    | some (some blk) => if (((flat blk.1).drop off).take (m * size)).length = m * size ∧ (((flat blk.1).drop off).take (m * size)).all V.one = true then some ([b], m, cutV blk.1 off (m * size)) else none
    | _ => none
  | .dsl m _ cs => if (cs.take (m * size)).length = m * size ∧ (cs.take (m * size)).all V.one = true then some ([], m, [.sld (cs.take (m * size))]) else none
  | _ => none

def evAppend (P : Program) (hp : Hp) (t t' : TypeId) (s x : V) : Option Out :=
  match P.underlying t with
  | some (.slice elem) =>
    match P.info? elem with
    | some i =>
      match i.zero, t == t' with
      | some z, true =>
        if 0 < i.size ∧ z.cells.size = i.size then
          match srcV hp i.size x with
          | some (bs, m, news) =>
            match s with
            | .sl b off n full =>
                match hp[b]? with
                | some (some blk) =>
                  if (((flat blk.1).drop off).take (n * i.size)).length = n * i.size ∧ n + m ≤ maxLen ∧ (n + m) * i.bytes ≤ 140737488355328 ∧ blk.2 = elem ∧ off = 0 then
                    some ⟨.sl hp.length 0 (n + m) false, hp.set b none ++ [some (cutV blk.1 0 (n * i.size) ++ news, elem)], b :: bs, [b]⟩
                  else none
                | _ => none
            | .dsl n full cs =>
              match m with
              | 0 => some ⟨.dsl n full cs, hp, bs, []⟩
              | _ + 1 => if full = true ∧ (cs.take (n * i.size)).length = n * i.size ∧ n + m ≤ maxLen ∧ (n + m) * i.bytes ≤ 140737488355328 then
                  some ⟨.sl hp.length 0 (n + m) false, hp ++ [some (.sld (cs.take (n * i.size)) :: news, elem)], bs, []⟩ else none
            | _ => none
          | none => none
        else none
      | _, _ => none
    | none => none
  | _ => none

def evLen (P : Program) (hp : Hp) (t : TypeId) : V → Option Out
  | .str l => match P.underlying t with
    | some .string => some ⟨.int .i64 l.length, hp, [], []⟩
    | _ => none
  | .sl _ _ n _ => match P.underlying t with
    | some (.slice _) => some ⟨.int .i64 n, hp, [], []⟩
    | _ => none
  | .dsl n _ _ => match P.underlying t with
    | some (.slice _) => some ⟨.int .i64 n, hp, [], []⟩
    | _ => none
  | _ => none

/-- One-level struct equality: what the fields' types must be. -/
def flatEq (P : Program) (f : Field) (x y : V) : Option Bool :=
  match P.underlying f.type, x, y with
  | some (.int _), .int k a, .int k' b => if k = k' then some (a == b) else none
  | some .bool, .bool a, .bool b => some (a == b)
  | some .string, .str a, .str b => some (a == b)
  | _, _, _ => none
def flatEqs (P : Program) (xs ys : List V) : List Field → Option Bool
  | [] => some true
  | f :: fs =>
    if f.name = "_" then none else
    match xs[f.offset]?, ys[f.offset]? with
    | some x, some y =>
      match flatEq P f x y with
      | some true => flatEqs P xs ys fs
      | some false => some false
      | none => none
    | _, _ => none

def evCmp (op : BinOp) (a b : Int) : Option V :=
  match op with
  | .eql => some (.bool (a == b))
  | .neq => some (.bool (a != b))
  | .lss => some (.bool (decide (a < b)))
  | .leq => some (.bool (decide (a ≤ b)))
  | .gtr => some (.bool (decide (a > b)))
  | .geq => some (.bool (decide (a ≥ b)))
  | _ => none

def evStr (op : BinOp) (a b : List UInt8) : Option V :=
  match op with
  | .add => if a.length + b.length ≤ 4611686018427387904 then some (.str (a ++ b)) else none
  | .eql => some (.bool (a == b))
  | .neq => some (.bool !(a == b))
  | .lss => some (.bool (Op.bytesLess a b))
  | .leq => some (.bool (Op.bytesLess a b || a == b))
  | .gtr => some (.bool !(Op.bytesLess a b || a == b))
  | .geq => some (.bool !(Op.bytesLess a b))
  | _ => none

def evInt (op : BinOp) (k : IntKind) (a b : Int) : Option V :=
  match op with
  | .add => some (.int k (k.wrap (a + b)))
  | .sub => some (.int k (k.wrap (a - b)))
  | .mul => some (.int k (k.wrap (a * b)))
  | .quo => if b = 0 then none else some (.int k (k.wrap (a.tdiv b)))
  | .rem => if b = 0 then none else some (.int k (a.tmod b))
  | op => evCmp op a b

def evBin (P : Program) (op : BinOp) (t : TypeId) : V → V → Option V
  | .int k a, .int k' b => if k = k' then evInt op k a b else none
  | .str a, .str b => evStr op a b
  | .bool a, .bool b => match P.underlying t, op with
    | some .bool, .eql => some (.bool (a == b))
    | some .bool, .neq => some (.bool (!(a == b)))
    | _, _ => none
  | .agg xs, .agg ys => match P.underlying t, P.stoodInHeld t, P.eqGuardType P.depth t, op with
    | some (.struct fs), false, false, .eql => (flatEqs P xs ys fs.toList).map fun r => .bool r
    | some (.struct fs), false, false, .neq => (flatEqs P xs ys fs.toList).map fun r => .bool (!r)
    | _, _, _, _ => none
  | _, _ => none

def evUn (op : UnOp) : V → Option V
  | .int k n => match op with
    | .neg => some (.int k (k.wrap (0 - n)))
    | _ => none
  | .bool b => match op with
    | .not => some (.bool (!b))
    | _ => none
  | _ => none

/-- The bytes that cells hold. -/
def bytesV : List V → Option (List UInt8)
  | [] => some []
  | .int .u8 n :: cs => if 0 ≤ n ∧ n < 256 then (bytesV cs).map (UInt8.ofNat n.toNat :: ·) else none
  | _ => none

def evConv (P : Program) (hp : Hp) (s d : TypeId) : V → Option Out
  | .int _ n => match P.underlying s, P.underlying d with
    | some (.int _), some (.int k) => some ⟨.int k (k.wrap n), hp, [], []⟩
    | _, _ => none
  | .str l => match P.underlying s, P.underlying d with
    | some .string, some .string => some ⟨.str l, hp, [], []⟩
    | some .string, some (.slice e) => match P.underlying e, P.info? e with
      | some (.int .u8), some i => if l.length ≤ maxLen ∧ i.size = 1 then some ⟨.sl hp.length 0 l.length false, hp ++ [some ([.sld (l.map fun b => V.int .u8 b.toNat)], e)], [], []⟩ else none
      | _, _ => none
    | _, _ => none
  | .sl b off n _ => match P.underlying s, P.underlying d with
    | some (.slice e), some .string => match P.underlying e, hp[b]? with
      | some (.int .u8), some (some blk) =>
        if (((flat blk.1).drop off).take n).length = n then
          match bytesV (((flat blk.1).drop off).take n) with
          | some l => some ⟨.str l, hp, [b], []⟩
          | none => none
        else none
      | _, _ => none
    | _, _ => none
  | .dsl n _ cs => match P.underlying s, P.underlying d with
    | some (.slice e), some .string => match P.underlying e with
      | some (.int .u8) =>
        if (cs.take n).length = n then
          match bytesV (cs.take n) with
          | some l => some ⟨.str l, hp, [], []⟩
          | none => none
        else none
      | _ => none
    | _, _ => none
  | _ => none

def evBound (x : Option V) (dflt lim : Nat) : Option Nat :=
  match x with
  | none => some dflt
  | some (.int _ i) => if 0 ≤ i ∧ i ≤ lim then some i.toNat else none
  | _ => none

def evSlice (P : Program) (hp : Hp) (t : TypeId) (x : V) (lo hi mx : Option V) : Option Out :=
  match x, mx with
  | .str l, none =>
    match P.underlying t, evBound hi l.length l.length with
    | some .string, some h => match evBound lo 0 h with
      | some k => some ⟨.str ((l.take h).drop k), hp, [], []⟩
      | none => none
    | _, _ => none
  | .sl b off n full, none =>
    match P.underlying t, evBound hi n n, hp[b]? with
    | some (.slice e), some h, some (some blk) => match evBound lo 0 h, szOf P e, blk.2 == e with
      | some k, some s, true =>
        match lo with
        | none => some ⟨.sl b off h (full && h == n), hp, [b], []⟩
        | some _ => if k < h then some ⟨.sl b (off + k * s) (h - k) (full && h == n), hp, [b], []⟩ else some ⟨.dsl 0 (full && h == n) [], hp, [b], []⟩
      | _, _, _ => none
    | _, _, _ => none
  | .sl b off n _, some m =>
    match P.underlying t, evBound (some m) 0 n, hi, hp[b]? with
    | some (.slice e), some m, some hi, some (some blk) => match evBound (some hi) 0 m with
      | some h => match evBound lo 0 h, szOf P e, blk.2 == e with
        | some k, some s, true =>
          if k = h then some ⟨.dsl 0 (m == h) [], hp, [b], []⟩
          else some ⟨.sl b (off + k * s) (h - k) (m == h), hp, [b], []⟩
        | _, _, _ => none
      | none => none
    | _, _, _, _ => none
  | .dsl n full cs, none =>
    match P.underlying t, evBound hi n n with
    | some (.slice e), some h => match evBound lo 0 h, szOf P e with
      | some k, some s => some ⟨.dsl (h - k) (full && h == n) ((cs.take (h * s)).drop (k * s)), hp, [], []⟩
      | _, _ => none
    | _, _ => none
  | .dsl n _ cs, some m =>
    match P.underlying t, evBound (some m) 0 n, hi with
    | some (.slice e), some m, some hi => match evBound (some hi) 0 m with
      | some h => match evBound lo 0 h, szOf P e with
        | some k, some s => some ⟨.dsl (h - k) (m == h) ((cs.take (h * s)).drop (k * s)), hp, [], []⟩
        | _, _ => none
      | none => none
    | _, _, _ => none
  | _, _ => none

def fieldOf (P : Program) (t : TypeId) (f : Nat) : Option Field :=
  match P.underlying t with
  | some (.struct fields) => fields[f]?
  | _ => none

/-- A part of an aggregate's cells. -/
def partV (P : Program) (t : TypeId) (cs : List V) (off : Nat) : Option V :=
  match P.underlying t, szOf P t with
  | some d, some s => match rowD d with
    | true => some (.agg ((cs.drop off).take s))
    | false => cs[off]?
  | _, _ => none

def evIndex (P : Program) (t : TypeId) : V → V → Option V
  | .str l, .int _ i => match P.underlying t with
    | some .string => if 0 ≤ i then (l[i.toNat]?).map fun b => .int .u8 b.toNat else none
    | _ => none
  | _, _ => none

def evMin : V → V → Option V
  | .int k a, .int _ b => some (.int k (if b < a then b else a))
  | _, _ => none
def evMax : V → V → Option V
  | .int k a, .int _ b => some (.int k (if b > a then b else a))
  | _, _ => none

def evPlain (P : Program) (e : Operand → V) (hp : Hp) : Op → Option Out
  | .move x => some ⟨e x, hp, [], []⟩
  | .assign x => some ⟨e x, hp, [], []⟩
  | .pick c a b => match e c with
    | .bool t => some ⟨if t then e a else e b, hp, [], []⟩
    | _ => none
  | .alloc t => evAlloc P hp t
  | .box t x => evBox hp t (e x)
  | .build t ps => evBuild P hp t (ps.toList.map fun p => (p.1, e p.2))
  | .buildSlice t n ps => evBuildSlice P hp t n (ps.toList.map fun p => (p.1, e p.2))
  | .load t x => evLoad P hp t (e x)
  | .store t x y => evStore P hp t (e x) (e y)
  | .nilCheck x => match e x with
    | .ptr b off => some ⟨.ptr b off, hp, [], []⟩
    | .dptr cs => some ⟨.dptr cs, hp, [], []⟩
    | _ => none
  | .binOp op t x y _ => (evBin P op t (e x) (e y)).map fun v => ⟨v, hp, [], []⟩
  | .unOp op _ x => (evUn op (e x)).map fun v => ⟨v, hp, [], []⟩
  | .convert s d x => evConv P hp s d (e x)
  | .makeFunc (.func f) first cap => match first.toList with
    | [] => some ⟨.fn f (cap.toList.map e), hp, [], []⟩
    | _ => none
  | .makeSlice t l c => evMakeSlice P hp t (e l) (e c)
  | .slice t x lo hi mx => evSlice P hp t (e x) (lo.map e) (hi.map e) (mx.map e)
  | .fieldAddr t x f => match e x, fieldOf P t f with
    | .ptr b off, some fd => match szOf P fd.type with
      | some (_ + 1) => some ⟨.ptr b (off + fd.offset), hp, [], []⟩
      | _ => none
    | .dptr cs, some fd => match szOf P fd.type with
      | some (_ + 1) => some ⟨.dptr (cs.drop fd.offset), hp, [], []⟩
      | _ => none
    | _, _ => none
  | .field t x f => match e x, fieldOf P t f with
    | .agg cs, some fd => (partV P fd.type cs fd.offset).map fun v => ⟨v, hp, [], []⟩
    | _, _ => none
  | .indexAddr t x i => match e x, e i, P.underlying t with
    | .sl b off n _, .int _ i, some (.slice el) => match szOf P el with
      | some s => if 0 ≤ i ∧ i < n then some ⟨.ptr b (off + i.toNat * s), hp, [], []⟩ else none
      | none => none
    | .dsl n _ cs, .int _ i, some (.slice el) => match szOf P el with
      | some s => if 0 ≤ i ∧ i < n then some ⟨.dptr (cs.drop (i.toNat * s)), hp, [], []⟩ else none
      | none => none
    | _, _, _ => none
  | .index t x i => (evIndex P t (e x) (e i)).map fun v => ⟨v, hp, [], []⟩
  | .extract x i => match e x with
    | .tup vs => (vs[i]?).map fun v => ⟨v, hp, [], []⟩
    | _ => none
  | .call c => match c.callee, c.args.toList, c.argTypes.toList with
    | .builtin .append, [s, x], [t, t'] => evAppend P hp t t' (e s) (e x)
    | .builtin .len, [x], [t] => evLen P hp t (e x)
    | .builtin .min, [x, y], _ => (evMin (e x) (e y)).map fun v => ⟨v, hp, [], []⟩
    | .builtin .max, [x, y], _ => (evMax (e x) (e y)).map fun v => ⟨v, hp, [], []⟩
    | _, _, _ => none
  | _ => none

end Go.Proofs.YtlimecojoiimaaaGreat

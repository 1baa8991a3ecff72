/-
  The small evaluator: code and functions.
-/
import Derived.Test.YtlimecojoiimaaaGreatUm
namespace Go.Proofs.YtlimecojoiimaaaGreat
open Go.RowKit

abbrev Rec := St × List Nat × List Nat

/-- A region's operations, one behind the other. -/
inductive TraceR (P : Program) (ops : Array Oper) : List Oper → St → List Rec → St → Prop where
  | nil (s : St) : TraceR P ops [] s [] s
  | cons {o : Oper} {rest : List Oper} {s s' s2 : St} {acc wr : List Nat} {l : List Rec} (callF : CallF) (hb : Bodied P callF) (hc : CallOK P callF) (h : evStep P callF ops s o = some (s', acc, wr)) (t : TraceR P ops rest s' l s2) : TraceR P ops (o :: rest) s ((s, acc, wr) :: l) s2

def snOf (l : List Rec) (s2 : St) (i : Nat) : St := match l[i]? with
  | some r => r.1
  | none => s2
def acOf (l : List Rec) (i : Nat) : List Nat := match l[i]? with
  | some r => r.2.1
  | none => []
def wrOf (l : List Rec) (i : Nat) : List Nat := match l[i]? with
  | some r => r.2.2
  | none => []

def maskOf (acc : List Nat) : List Edge → Nat
  | [] => 0
  | e :: es => if Region.binds .any e then (2 ^ e.on ||| acc.getD e.on 0) ||| maskOf acc es else maskOf acc es
def befL : List Oper → List Nat → List Nat
  | [], acc => acc
  | o :: os, acc => befL os (acc ++ [maskOf acc o.after.toList])

def freeB (ops : Array Oper) (l : List Rec) (s2 : St) (i j : Nat) : Bool :=
  (match ops[i]?, ops[j]? with
    | some oi, some oj => oi.apart ops oj
    | _, _ => false) &&
  (acOf l j).all (fun b => !touchB (snOf l s2) (wrOf l) b i) && (wrOf l j).all fun b => !(acOf l i).contains b

def drawOK (ops : Array Oper) (l : List Rec) (s2 : St) : Bool :=
  let ms := befL ops.toList []
  (ops.toList.zipIdx.all fun x => x.1.after.toList.all fun e => !Region.binds .any e || decide (e.on < x.2)) &&
  (List.range ops.size).all fun j => (List.range j).all fun i => (ms.getD j 0).testBit i || freeB ops l s2 i j

def evResult (P : Program) (hp : Hp) (tm : Tm) : ResultVar → Option V
  | .tmp t => some (tm.get t)
  | .cell a t => (evLoad P hp t (tm.get a)).map (·.v)
def evResultL (P : Program) (hp : Hp) (tm : Tm) : List ResultVar → Option (List V)
  | [] => some []
  | r :: rs => match evResult P hp tm r, evResultL P hp tm rs with
    | some v, some vs => some (v :: vs)
    | _, _ => none
def oneOf : List V → V
  | [v] => v
  | vs => .tup vs

section
variable {P : Program} {ops : Array Oper}

theorem trace_run : ∀ {os : List Oper} {s : St} {l : List Rec} {s2 : St}, TraceR P ops os s l s2 →
    l.length = os.length ∧ snOf l s2 0 = s ∧ (∀ (i : Nat) (o : Oper), os[i]? = some o → ∃ callF, Bodied P callF ∧ CallOK P callF ∧ evStep P callF ops (snOf l s2 i) o = some (snOf l s2 (i + 1), acOf l i, wrOf l i))
  | _, _, _, _, .nil s => ⟨rfl, rfl, by simp⟩
  | _, _, _, s2, .cons (o := o) (rest := rest) (s := s) (s' := s') (acc := acc) (wr := wr) (l := l') callF hb hc hs ht => by
    obtain ⟨h1, h2, h3⟩ := trace_run ht
    refine ⟨by simp [h1], rfl, fun i o' ho => ?_⟩
    cases i with
    | zero =>
      simp at ho; subst ho
      refine ⟨callF, hb, hc, ?_⟩
      show evStep P callF ops s o = some (snOf ((s, acc, wr) :: l') s2 1, acc, wr)
      rw [hs]
      have : snOf ((s, acc, wr) :: l') s2 1 = snOf l' s2 0 := rfl
      rw [this, h2]
    | succ i =>
      have := h3 i o' (by simpa using ho)
      simpa [snOf, acOf, wrOf] using this

theorem mask_spec {acc : List Nat} {i : Nat} : ∀ {es : List Edge}, (maskOf acc es).testBit i = true → ∃ e ∈ es, Region.binds .any e = true ∧ (e.on = i ∨ (acc.getD e.on 0).testBit i = true)
  | [], h => by simp [maskOf] at h
  | e :: es, h => by
    unfold maskOf at h
    split at h
    · rename_i hb
      rw [Nat.testBit_or, Nat.testBit_or, Bool.or_eq_true, Bool.or_eq_true, Nat.testBit_two_pow] at h
      rcases h with (h | h) | h
      · exact ⟨e, by simp, hb, .inl (by simpa using h)⟩
      · exact ⟨e, by simp, hb, .inr h⟩
      · obtain ⟨e', he, h1, h2⟩ := mask_spec h
        exact ⟨e', by simp [he], h1, h2⟩
    · obtain ⟨e', he, h1, h2⟩ := mask_spec h
      exact ⟨e', by simp [he], h1, h2⟩

theorem bef_spec (ops : Array Oper) : ∀ (os : List Oper) (acc : List Nat), ops.toList = (ops.toList.take acc.length) ++ os → acc.length ≤ ops.size →
    (∀ j i, (acc.getD j 0).testBit i = true → Ahead ops i j) → ∀ j i, ((befL os acc).getD j 0).testBit i = true → Ahead ops i j
  | [], acc, _, _, h => h
  | o :: os, acc, he, hl, h => by
    unfold befL
    have hlt : acc.length < ops.size := by
      have := congrArg List.length he
      simp at this; omega
    have hmin : (ops.toList.take acc.length).length = acc.length := by simp; omega
    have ho : ops[acc.length]? = some o := by
      rw [← Array.getElem?_toList, he, List.getElem?_append_right (by omega), hmin, Nat.sub_self]
      rfl
    refine bef_spec ops os _ ?_ (by simp; omega) fun j i hb => ?_
    · rw [List.length_append, List.length_singleton, List.take_add_one, Array.getElem?_toList, ho]
      conv => lhs; rw [he]
      simp
    · simp only [List.getD_eq_getElem?_getD] at hb
      rw [List.getElem?_append] at hb
      split at hb
      · exact h j i (by simpa [List.getD_eq_getElem?_getD] using hb)
      · rename_i hj
        cases hk : j - acc.length with
        | zero =>
          rw [hk] at hb
          simp at hb
          have hje : j = acc.length := by omega
          obtain ⟨e, hme, hbd, hor⟩ := mask_spec hb
          rw [hje]
          rcases hor with h1 | h1
          · exact .one ho (by simpa using hme) hbd h1
          · exact .more ho (by simpa using hme) hbd (h _ _ h1)
        | succ k => rw [hk] at hb; simp at hb

theorem draw_spec {l : List Rec} {s2 : St} (h : drawOK ops l s2 = true) : (∀ j o e, ops[j]? = some o → e ∈ o.after → Region.binds .any e = true → e.on < j) ∧
    (∀ i j, i < j → j < ops.size → Ahead ops i j ∨ Free ops (snOf l s2) (acOf l) (wrOf l) i j) := by
  unfold drawOK at h
  simp only [Bool.and_eq_true] at h
  obtain ⟨h1, h2⟩ := h
  refine ⟨fun j o e ho he hb => ?_, fun i j hij hj => ?_⟩
  · rw [List.all_eq_true] at h1
    have hm : (o, j) ∈ ops.toList.zipIdx := by
      rw [List.mem_zipIdx_iff_getElem?]
      simpa using ho
    have := h1 _ hm
    rw [List.all_eq_true] at this
    have := this e (by simpa using he)
    simpa [hb] using this
  · rw [List.all_eq_true] at h2
    have h3 := h2 j (by simpa using hj)
    rw [List.all_eq_true] at h3
    have h4 := h3 i (by simpa using hij)
    rw [Bool.or_eq_true] at h4
    rcases h4 with h4 | h4
    · exact .inl (bef_spec ops ops.toList [] (by simp) (by simp) (by simp) j i h4)
    · right
      unfold freeB at h4
      simp only [Bool.and_eq_true, List.all_eq_true] at h4
      obtain ⟨⟨h5, h6⟩, h7⟩ := h4
      refine ⟨fun oi oj hoi hoj => ?_, fun b hb => by simpa using h6 b hb, fun b hb => by simpa using h7 b hb⟩
      rw [hoi, hoj] at h5
      exact h5

theorem trace_key {s s' : St} : ∀ l, TraceR P ops ops.toList s l s' → ∃ (hr : Run P ops (snOf l s') (acOf l) (wrOf l)), snOf l s' 0 = s ∧ snOf l s' ops.size = s' ∧ (∀ b, b ∈ (l.flatMap (·.2.2)) ↔ ∃ i, i < ops.size ∧ b ∈ wrOf l i) ∧ (∀ b, b ∈ s'.wr ↔ b ∈ s.wr ∨ b ∈ (l.flatMap (·.2.2))) := by
  intro l hl
  obtain ⟨h1, h2, h3⟩ := trace_run hl
  have hr : Run P ops (snOf l s') (acOf l) (wrOf l) := ⟨fun i o ho => h3 i o (by simpa using ho)⟩
  have hsz : l.length = ops.size := by simpa using h1
  have hW : ∀ b, b ∈ (l.flatMap (·.2.2)) ↔ ∃ i, i < ops.size ∧ b ∈ wrOf l i := by
    intro b
    rw [List.mem_flatMap]
    constructor
    · rintro ⟨r, hrl, hb⟩
      obtain ⟨i, hi, rfl⟩ := List.getElem_of_mem hrl
      exact ⟨i, by omega, by simp [wrOf, List.getElem?_eq_getElem hi, hb]⟩
    · rintro ⟨i, hi, hb⟩
      have hil : i < l.length := by omega
      exact ⟨l[i], List.getElem_mem hil, by simpa [wrOf, List.getElem?_eq_getElem hil] using hb⟩
  have hend : snOf l s' ops.size = s' := by simp [snOf, hsz]
  refine ⟨hr, h2, hend, hW, fun b => ?_⟩
  have hwr : ∀ i, i ≤ ops.size → (b ∈ (snOf l s' i).wr ↔ b ∈ s.wr ∨ ∃ k, k < i ∧ b ∈ wrOf l k) := by
    intro i
    induction i with
    | zero => intro _; rw [h2]; simp
    | succ i ih =>
      intro hi
      obtain ⟨_, hw, _⟩ := hr.parts i _ (Array.getElem?_eq_getElem (show i < ops.size by omega))
      rw [hw, List.mem_append, ih (by omega)]
      constructor
      · rintro ((h | ⟨k, hk, h⟩) | h)
        · exact .inl h
        · exact .inr ⟨k, by omega, h⟩
        · exact .inr ⟨i, by omega, h⟩
      · rintro (h | ⟨k, hk, h⟩)
        · exact .inl (.inl h)
        · by_cases e : k = i
          · subst e; exact .inr h
          · exact .inl (.inr ⟨k, by omega, h⟩)
  rw [hW]
  have := hwr ops.size (Nat.le_refl _)
  rw [hend] at this
  exact this


/-- What evaluation itself keeps of the blocks that were there. -/
structure SR (hp0 : Hp) (s : St) : Prop where
  len : hp0.length ≤ s.hp.length
  frame : ∀ b, b < hp0.length → b ∉ s.wr → s.hp[b]? = hp0[b]?
  alive : ∀ b, b < hp0.length → Alive s.hp b → Alive hp0 b

theorem region_static {s s' : St} {l : List Rec} (hl : TraceR P ops ops.toList s l s') {hp0 : Hp} (C : SR hp0 s) : SR hp0 s' := by
  obtain ⟨hr, h0, hN, hW, hWn⟩ := trace_key l hl
  have hl := lens hr (Nat.zero_le ops.size) (Nat.le_refl _)
  rw [h0, hN] at hl
  refine ⟨Nat.le_trans C.len hl, fun b hb hn => ?_, fun b hb h => ?_⟩
  · have := run_frame hr (c := b) (by rw [h0]; have := C.len; omega) (fun i hi hbi => hn ((hWn b).2 (.inr ((hW b).2 ⟨i, hi, hbi⟩)))) ops.size (Nat.le_refl _)
    rw [h0, hN] at this
    rw [this]
    exact C.frame b hb fun h => hn ((hWn b).2 (.inl h))
  · have := run_alive hr (c := b) (by rw [h0]; have := C.len; omega) ops.size (Nat.le_refl _) (by rw [hN]; exact h)
    rw [h0] at this
    exact C.alive b hb this

theorem region_sound (hm : P.follows .mixedOrders = true) (hn : Named P) {draw : Bool} {s s' : St} {l : List Rec} (hl : TraceR P ops ops.toList s l s') (hd : draw = true → drawOK ops l s' = true) {hp0 : Hp} {I0 Im : Nat → Prop} {μ0 μ : Mu} {w0 w : World} {a : Act}
    (C : CI P hp0 I0 μ0 w0 s a w Im μ) {id : Nat} {Q : Exit → Act → World → Prop} (hQ : ∀ a' w' μ' Im', CI P hp0 I0 μ0 w0 s' a' w' Im' μ' → Q .normal a' w') : (Code.region id ops draw).wp P Q a w := by
  obtain ⟨hr, h0, hN, hW, hWn⟩ := trace_key l hl
  cases draw
  · refine wp_region ?_
    rw [show List.range ops.size = List.range' 0 ops.size from List.range_eq_range' ..]
    refine region_seq hn hr (W := l.flatMap (·.2.2)) (fun i hi b hb => (hW b).2 ⟨i, hi, hb⟩) (by rw [h0]; exact C.dom) (fun L a' w' μ' Im' hL I => hQ a' w' μ' Im' ?_) ops.size 0 (by omega) a w μ Im (ri_start (fun i => by simp) (by rw [h0]; exact C) w (.inl rfl))
    have := ci_region hr hL hW (by rw [hN, h0]; exact hWn) (by rw [h0]; exact C) I
    rwa [hN] at this
  · obtain ⟨hback, hfree⟩ := draw_spec (hd rfl)
    refine wp_region_any hm ?_
    refine region_any hn hr (W := l.flatMap (·.2.2)) (fun i hi b hb => (hW b).2 ⟨i, hi, hb⟩) (by rw [h0]; exact C.dom) hback hfree (fun L a' w' μ' Im' hL I => hQ a' w' μ' Im' ?_) ops.size _ (by simp) (Nat.le_trans List.countP_le_length (by simp)) ?_ a _ μ Im (ri_start (fun i => ?_) (by rw [h0]; exact C) w.drew (.inr rfl))
    · have := ci_region hr hL hW (by rw [hN, h0]; exact hWn) (by rw [h0]; exact C) I
      rwa [hN] at this
    · intro j o e hj
      simp only [listedL, Array.getD_eq_getD_getElem?, Array.getElem?_replicate] at hj
      split at hj <;> cases hj
    · simp only [listedL, Array.getD_eq_getD_getElem?, Array.getElem?_replicate]
      split <;> rfl

def Ex.toExit : Ex → Exit
  | .normal => .normal
  | .exit id => .exit id
  | .ret => .ret

end
end Go.Proofs.YtlimecojoiimaaaGreat

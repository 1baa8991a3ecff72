/-
  A slice of one's own is given away to a function that only reads it.
-/
import Derived.Test.YtopebociobgmhaaRh
namespace Go.Proofs.Ytopebociobgmhaa
open Go.RowKit

mutual
/-- What a value is when block 0 is given away. -/
def lend (cs : List V) : V → V
  | .int k n => .int k n
  | .bool b => .bool b
  | .str s => .str s
  | .nilp => .nilp
  | .sl 0 0 n _ => .dsl n false cs
  | .dsl n _ c => .dsl n false c
  | .dptr c => .dptr c
  | .agg l => .agg (lendL cs l)
  | _ => .junk
def lendL (cs : List V) : List V → List V
  | [] => []
  | x :: t => lend cs x :: lendL cs t
end

section
variable {P : Program} {I I2 : Nat → Prop} {μ : Mu} {w : World} {cs : List V} {g : Nat}
mutual
theorem lend_sound (hI : Sub I I2) (hg : I2 g) (hm : μ 0 = some g) (hc : ∃ cells e fr, w.heap[g]? = some (.cells cells e fr) ∧ V.RL P I2 noMu w cs (cells.toList.take cs.length)) : ∀ (x : V) (u : Value), V.R P I μ w x u → V.R P I2 noMu w (lend cs x) u
  | .int k n, u, h => by simpa only [lend, V.R] using h
  | .bool b, u, h => by simpa only [lend, V.R] using h
  | .str s, u, h => by simpa only [lend, V.R] using h
  | .nilp, u, h => by simpa only [lend, V.R] using h
  | .sl 0 0 n full, u, h => by
    simp only [V.R] at h
    obtain ⟨g', cap, e, N, i, h1, h2, h3, h4, h5, h6⟩ := h
    rw [hm] at h1; cases h1
    obtain ⟨cells, e', fr, k1, k2⟩ := hc
    simp only [lend, V.R]
    exact ⟨_, cap, h2, h3, fun h => (nomatch h), .inr ⟨g, 0, rfl⟩, .inr ⟨g, 0, rfl, hg, cells, e', fr, k1, by simpa using k2⟩⟩
  | .sl 0 (_ + 1) n full, u, h => by simp only [lend, V.R]
  | .sl (_ + 1) _ n full, u, h => by simp only [lend, V.R]
  | .dsl n f c, u, h => by
    have h' : V.R P I noMu w (.dsl n false c) u := by
      simp only [V.R] at h ⊢
      obtain ⟨a, cap, h1, h2, _, h3⟩ := h
      exact ⟨a, cap, h1, h2, fun h => (nomatch h), h3⟩
    exact h'.keep (.refl w (fun _ => False)) hI (.refl _)
  | .dptr c, u, h => (RL_nomu [.dptr c] [u] (by simp [V.refsL, V.refs]) ⟨u, [], rfl, h, rfl⟩ |> fun ⟨_, _, e, h, _⟩ => by
      cases e
      exact h.keep (.refl w (fun _ => False)) hI (.refl _))
  | .agg l, u, h => by
    simp only [V.R, lend] at h ⊢
    obtain ⟨vs, h1, h2⟩ := h
    exact ⟨vs, h1, lendL_sound hI hg hm hc l _ h2⟩
  | .ptr _ _, u, h => by simp only [lend, V.R]
  | .sld _, u, h => by simp only [lend, V.R]
  | .tup _, u, h => by simp only [lend, V.R]
  | .fn _ _, u, h => by simp only [lend, V.R]
  | .nilf, u, h => by simp only [lend, V.R]
  | .lit _, u, h => by simp only [lend, V.R]
  | .junk, u, h => by simp only [lend, V.R]
theorem lendL_sound (hI : Sub I I2) (hg : I2 g) (hm : μ 0 = some g) (hc : ∃ cells e fr, w.heap[g]? = some (.cells cells e fr) ∧ V.RL P I2 noMu w cs (cells.toList.take cs.length)) : ∀ (l : List V) (us : List Value), V.RL P I μ w l us → V.RL P I2 noMu w (lendL cs l) us
  | [], us, h => by simpa only [lendL, V.RL] using h
  | x :: t, us, h => by
    simp only [V.RL, lendL] at h ⊢
    obtain ⟨u, us', h1, h2, h3⟩ := h
    exact ⟨u, us', h1, lend_sound hI hg hm hc x u h2, lendL_sound hI hg hm hc t us' h3⟩
end
end

theorem FnOK.give {P : Program} {f : FuncId} {vs : List V} {v : V} {c cs : List V} {T : TypeId} (hr : V.refsL c = []) (hcs : flat c = cs) (h : FnOK P f (lendL cs vs) [] ⟨v, [], []⟩) : FnOK P f vs [some (c, T)] ⟨v, [none], [0]⟩ := by
  subst hcs
  generalize hcs : flat c = cs at h
  obtain ⟨_, hmain⟩ := h
  refine ⟨⟨by simp, fun b hb hn => ?_, fun b hb => ?_, fun b hb ⟨blk, hal⟩ => ?_⟩, fun I w μ vals hvals pre hdom => ?_⟩
  · simp at hb hn; omega
  · simp at hb ⊢; omega
  · have : b = 0 := by simpa using hb
    subst this
    simp at hal
  have hh := (pre.holds 0 (by simp) _ rfl).toSeal hr
  rw [hcs] at hh
  obtain ⟨g, cells, fr, k1, k2, k3, k4, k5, k6⟩ := hh
  have hcr := CR.toRL k6
  simp only [flat_seal, flat, List.append_nil] at hcr k5
  obtain ⟨us, vs', e1, e2, e3⟩ := CR.seal_iff.1 k6
  simp only [CR] at e3
  subst e3
  simp only [flat_seal, flat, List.append_nil] at e1
  let I2 : Nat → Prop := fun k => I k ∨ k = g
  have hI : Sub I I2 := fun k hk => .inl hk
  have hglt : g < w.heap.size := by
    rcases Nat.lt_or_ge g w.heap.size with h | h
    · exact h
    · rw [Array.getElem?_eq_none h] at k3; cases k3
  have hc : ∃ cells e fr, w.heap[g]? = some (.cells cells e fr) ∧ V.RL P I2 noMu w cs (cells.toList.take cs.length) := ⟨cells, _, fr, k3, by rw [e1]; exact e2.keep (.refl w (fun _ => False)) hI (.refl _)⟩
  have hv2 := lendL_sound (I2 := I2) hI (.inr rfl) k1 hc vs _ hvals
  have pre2 : Pre P I2 noMu w [] (List.range ([] : Hp).length) 0 := by
    refine ⟨fun k hk => ?_, fun b hb => by simp at hb, fun b hb => by simp at hb, fun b _ hb => by omega⟩
    rcases hk with hk | rfl
    · exact pre.ilt k hk
    · exact hglt
  refine (hmain I2 w noMu vals hv2 pre2 (fun b g h => by cases h)).mono fun e w' ⟨val, μ', I', he, hR, G⟩ => ⟨val, μ, I', he, ?_, ?_⟩
  · refine hR.keep (.refl w' (fun _ => False)) (.refl _) (fun b g hb => ?_)
    rcases G.dom b g hb with h | ⟨h1, h2⟩
    · cases h
    · simp at h2
  · refine ⟨fun k hk => G.isub k (.inl hk), fun k hk => ?_, ?_, .refl _, fun b g h => .inl h, fun b hb blk hblk => ?_, fun b hb blk hblk => ?_, fun b c blk blk' g hne hb hc h1 h2 => ?_⟩
    · rcases G.igrow k hk with (h | rfl) | h | ⟨c, h1, _⟩
      · exact .inl h
      · exact .inr (.inr ⟨0, by simp, k1, ⟨_, rfl⟩, rfl⟩)
      · exact .inr (.inl h)
      · simp at h1
    · exact (G.evo.less hI).mono fun j ⟨b, hb, _⟩ => by simp at hb
    · rcases b with _ | b <;> simp at hblk
    · rcases b with _ | b <;> simp at hblk
    · rcases b with _ | b <;> simp at h1

abbrev fStream : Nat := 33
def one (j : J) : J := .mk 4 0 [] [] [j]
theorem print_one {j : J} (h : FnOK Try.prog fPrint [.agg (vwJ (one j))] [] ⟨.str (pj (one j)), [], []⟩) (full : Bool) : FnOK Try.prog fPrint [.agg [.int .i64 4, .int .i64 0, .str [], .dsl 0 full [], .sl 0 0 1 full]] [some (vwJ j, tJ)] ⟨.str (pj (one j)), [none], [0]⟩ := by
  refine FnOK.give (cs := vwJ j) rfl rfl ?_
  have e : encs encJ [j] = vwJ j := by rw [encs_one, encJ_vw]
  have : vwJ (one j) = [.int .i64 4, .int .i64 0, .str [], .dsl 0 false [], .dsl 1 false (vwJ j)] := by rw [← e]; rfl
  rw [this] at h
  exact h

/-- What a stream is. -/
def blanks : List (List UInt8) := [[32], [10], [32, 32], [120], [93]]
def tails : List (List UInt8) := [[91, 49], [123, 34, 97], [91, 34, 120, 92], [91, 91, 91, 91, 91, 91, 91, 91, 91, 91, 91, 91, 91], [91, 34, 93, 34], [110, 117, 108, 108]]
def strStep (x : Src) (t : List UInt8) : List UInt8 × Src :=
  if (chanceF (jsonF 3 x).2 3).1 then (t ++ pj (one (jsonF 3 x).1) ++ (pickF (chanceF (jsonF 3 x).2 3).2 blanks).1, (pickF (chanceF (jsonF 3 x).2 3).2 blanks).2)
  else (t ++ pj (one (jsonF 3 x).1), (chanceF (jsonF 3 x).2 3).2)
def strLoop : Nat → Src → List UInt8 → List UInt8 × Src
  | 0, x, t => (t, x)
  | i + 1, x, t => strLoop i (strStep x t).2 (strStep x t).1
def streamF (x : Src) : List UInt8 × Src :=
  let y := strLoop (nextF x 4).1.toNat (nextF x 4).2 []
  if (chanceF y.2 3).1 then (y.1 ++ (pickF (chanceF y.2 3).2 tails).1, (pickF (chanceF y.2 3).2 tails).2) else (y.1, (chanceF y.2 3).2)

noncomputable def resOne : ResT := fun f vs hp => match vs, hp with
  | [.agg [.int _ 4, .int _ 0, .str [], .dsl 0 _ [], .sl 0 0 1 _]], [some ([.int _ k, .int _ n, .str t, .dsl _ _ ks, .dsl _ _ its], _)] => bif Nat.beq f fPrint then some ⟨pj (one (jOf k n t ks its)), fun y => ⟨.str y, [none], [0]⟩⟩ else none
  | _, _ => none
noncomputable def resSt : ResT := ((resNext.or resPick).or (resJson (jsonF 3))).or resOne
noncomputable def ESt : Env := { P := Try.prog, vw := vwA, res := resSt }
def stS (x : Src) (t : List UInt8) (i : Nat) : St := ⟨mkTm 33 [(0, .ptr 0 0), (3, .str t), (4, .int .i64 i)], [srcB x], [0]⟩
def nfS : Ex → Kp := fun _ => { keep := [0, 3, 4] }

--FOLD srcB vwJ
set_option maxRecDepth 100000 in
theorem strmT (x : Src) (t : List UInt8) (i : Nat) : bodyT ESt 1 nfS (lp Try.prog fStream 0) (stS x t i) =
  bif decide ((↑i : Int) > (0 : Int)) then
    T.bind (jsonF 3 (srcOf (encs encByte (Src.l x)) (↑(Src.k x) : Int) (Src.s x))) fun y0 =>
      T.need [FnOK (Env.P ESt) 39 [V.ptr 0 0, V.int IntKind.i64 (3 : Int)] [srcB x] (Ret.mk (V.agg (vwJ (Prod.fst y0))) [srcB (Prod.snd y0)] [0])]
        (T.bind (pj (one (jOf (J.kind (Prod.fst y0)) (J.n (Prod.fst y0)) (J.t (Prod.fst y0)) (encs encStr (J.keys (Prod.fst y0))) (encs encJ (J.items (Prod.fst y0)))))) fun y1 =>
          T.need
            [FnOK (Env.P ESt) 38 [V.agg [V.int IntKind.i64 (4 : Int), V.int IntKind.i64 (0 : Int), V.str [], V.dsl 0 true [], V.sl 0 0 1 true]] [some (vwJ (Prod.fst y0), 64)]
                (Ret.mk (V.str y1) [none] [0])]
            (T.need [List.length t + List.length y1 ≤ 4611686018427387904]
              (T.bind (chanceF (srcOf (encs encByte (Src.l (Prod.snd y0))) (↑(Src.k (Prod.snd y0)) : Int) (Src.s (Prod.snd y0))) (3 : Int)) fun y2 =>
                T.need [FnOK (Env.P ESt) 40 [V.ptr 0 0, V.int IntKind.i64 (3 : Int)] [srcB (Prod.snd y0)] (Ret.mk (V.bool (Prod.fst y2)) [srcB (Prod.snd y2)] [0])]
                  (bif Prod.fst y2 then
                    T.bind
                      (pickF (srcOf (encs encByte (Src.l (Prod.snd y2))) (↑(Src.k (Prod.snd y2)) : Int) (Src.s (Prod.snd y2)))
                        (strsOf [V.str [32], V.str [10], V.str [32, 32], V.str [120], V.str [93]]))
                      fun y3 =>
                      T.need
                        [FnOK (Env.P ESt) 41 [V.ptr 0 0, V.sl 1 0 5 true]
                            [srcB (Prod.snd y2), some ([V.str [32], V.str [10], V.str [32, 32], V.str [120], V.str [93]], 9)]
                            (Ret.mk (V.str (Prod.fst y3))
                              [srcB (Prod.snd y3), some ([V.str [32], V.str [10], V.str [32, 32], V.str [120], V.str [93]], 9)] [0])]
                        (T.need [List.length (t ++ y1) + List.length (Prod.fst y3) ≤ 4611686018427387904]
                          (T.done
                            (Ex.normal,
                              St.mk
                                (mkTm 33 [(0, V.ptr 0 0), (3, V.str (t ++ y1 ++ Prod.fst y3)), (4, V.int IntKind.i64 (IntKind.wrap IntKind.i64 ((↑i : Int) - (1 : Int))))])
                                [srcB (Prod.snd y3)] [0])))
                  else
                    T.done
                      (Ex.normal,
                        St.mk (mkTm 33 [(0, V.ptr 0 0), (3, V.str (t ++ y1)), (4, V.int IntKind.i64 (IntKind.wrap IntKind.i64 ((↑i : Int) - (1 : Int))))])
                          [srcB (Prod.snd y2)] [0])))))
  else T.done (Ex.exit 0, St.mk (mkTm 33 [(0, V.ptr 0 0), (3, V.str t), (4, V.int IntKind.i64 (↑i : Int))]) [srcB x] [0]) := by kernel_rfl

theorem strm_loop : ∀ (i : Nat) (x : Src) (t : List UInt8) (c : Nat), x.OK (c + i * (qF 3 + 6)) → t.length + i * 3000 ≤ 100000 → LoopTo Try.prog 1 (lp Try.prog fStream 0) (stS x t i) (.exit 0) (stS (strLoop i x t).2 (strLoop i x t).1 0)
  | 0, x, t, c, h, ht => by
    refine loopT (E := ESt) follows named (strmT x t 0) ?_
    simp only [WP_cond, T.WP, All, decide_eq_true_eq, decide_eq_false_iff_not, and_true, beq_iff_eq, beq_eq_false_iff_ne, ne_eq]
    exact ⟨fun h => by omega, fun _ => ⟨rfl, rfl⟩⟩
  | i + 1, x, t, c, h, ht => by
    have hc : x.OK ((c + i * (qF 3 + 6) + 3 + 3) + qF 3) := by
      refine h.less ?_
      rw [Nat.add_mul, Nat.one_mul]; omega
    have hd := json_draw 3 (by omega)
    have h1 := hd.cost x _ hc
    have h2 := chanceF_ok (n := 3) h1 (by omega)
    have h3 := pickF_ok (L := blanks) h2 (by simp [blanks])
    have hp := json_pr 3 (by omega) x _ hc
    have hp1 : Pr (1 * (bF 3 + 8) + 2) (one (jsonF 3 x).1) := pr_many (by decide) 4 (.inl rfl) [] [(jsonF 3 x).1] (m := 1) (by omega) (by simp) (fun y hy => by rw [List.mem_singleton.1 hy]; exact hp) (fun s hs => nomatch hs) (fun h => by omega)
    have hl := hp1.len
    have hb : bF 3 = 2250 := by decide
    have h4 : (pickF (chanceF (jsonF 3 x).2 3).2 blanks).1.length ≤ 2 := by
      have : ∀ s ∈ blanks, s.length ≤ 2 := by decide
      exact this _ h3.2
    have ih := strm_loop i (strStep x t).2 (strStep x t).1 c (by
      unfold strStep; split
      · exact h3.1.less (by omega)
      · exact h2.less (by omega)) (by
      unfold strStep; split
      · simp only [List.length_append]; omega
      · simp only [List.length_append]; omega)
    refine loopT (E := ESt) follows named (strmT x t _) ?_
    simp only [WP_cond, T.WP, All, decide_eq_true_eq, decide_eq_false_iff_not, and_true, beq_iff_eq, beq_eq_false_iff_ne, ne_eq, srcOf_mk, jOf_eta, strLoop]
    refine ⟨fun _ => ?_, fun h => by omega⟩
    rintro y rfl
    refine ⟨hd.call x _ hc, ?_⟩
    rintro y rfl
    refine ⟨print_one hp1.ok true, by omega, ?_⟩
    rintro y rfl
    rw [wrap_id (by omega), show ((i + 1 : Nat) : Int) - 1 = (i : Int) by omega]
    refine ⟨chance_ok _ 3 h1 (by omega), fun hy => ?_, fun hy => ?_⟩
    · rintro y rfl
      refine ⟨pick_ex _ blanks true rfl rfl rfl h2, ?_, ?_⟩
      · simp only [List.length_append]
        have h5 : (pickF (chanceF (jsonF 3 x).2 3).2 (strsOf [V.str [32], V.str [10], V.str [32, 32], V.str [120], V.str [93]])).1.length ≤ 2 := h4
        omega
      · simp only [strStep, hy, if_true] at ih ⊢
        exact ih
    · simp only [strStep, hy, Bool.false_eq_true, if_false] at ih ⊢
      exact ih

end Go.Proofs.Ytopebociobgmhaa

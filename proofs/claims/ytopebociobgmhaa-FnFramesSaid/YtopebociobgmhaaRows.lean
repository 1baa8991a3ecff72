/-
  No cell of these rows narrows 'for every input' (looked for: loops, veiled, ifaces, maps, wideKeys, modest, calm, conditions, laid).
  DERIVED. THE GIVEN ROWS OF THIS SEAT. 5 by the template 'for every input the law returns true; each argument reads behind the call as it read before'; 0 by the template 'total and deterministic' (their statements: YtopebociobgmhaaTotals.lean).
  GIVEN WITH THE SEED: the statements are not yours to turn. If you find one false, say at which input.
  Laid BY PROGRAM, IN A SANDBOX (cutbox-rows.mjs): the forced cells as the released guide's own fill.sh prints them over the translation 74a86c14b6a6dc9a… (all of the seat's roots in one cut). By AI agents, Wed Nov 11 2026. No macro, syntax, notation, axiom, sorry.
-/
import Derived.Test.YtopebociobgmhaaChecked
import GoSem.Claim
import GoSem.ClaimJoined
import GoSem.ClaimMapViews
import Derived.JoinedTies
import Derived.KernelRfl
namespace Go.Proofs.Ytopebociobgmhaa
/- THE CELL 'sum', in the pinned program and in every row, IS THE sha256 OF THE DUMP (.gsa) THAT YtopebociobgmhaaProg.lean LOADS. Nothing in Lean hashes anything: it is a label: what it is worth is what the hold of that sum in a sandbox is worth. -/
noncomputable def Try.pinned : Pinned := { name := "ytopebociobgmhaa", sum := "74a86c14b6a6dc9a1de50a76e4fa45011429eb7b65440952e2bbc5bbd299d335", checked := Try.checked }
namespace Rows
def none {H : Type} : Left H := { results := [], args := [] }

/-- 'laws.FnExactFrameText': WHATEVER THE INPUT: true; the input reads as it did. -/
def fnExactFrameTextSpec : ChangeSpec := { name := "fnExactFrameText", fn := fun _ => fun
  | [d] => { results := [.lit (.bool true)], args := [d] }
  | _ => none }
def fnExactFrameTextRow : OpenClaim := { program := "ytopebociobgmhaa", sum := "74a86c14b6a6dc9a1de50a76e4fa45011429eb7b65440952e2bbc5bbd299d335", func := "loop.example/g00524/laws.FnExactFrameText", spec := "fnExactFrameText", apart := false }
def FnExactFrameTextSaid : Prop := fnExactFrameTextRow.holds Try.pinned (OpenSpec.ofChange fnExactFrameTextSpec)

/-- ITS FALSE NEIGHBOUR: 'it returns false'. Refute it at one input. -/
def fnExactFrameTextWrong : ChangeSpec := { name := "fnExactFrameText", fn := fun _ => fun
  | [d] => { results := [.lit (.bool false)], args := [d] }
  | _ => none }
def FnExactFrameTextWrongFalsely : Prop := fnExactFrameTextRow.holds Try.pinned (OpenSpec.ofChange fnExactFrameTextWrong)

/-- 'laws.FnExactFramerOK': WHATEVER THE INPUT: true; the input reads as it did. -/
def fnExactFramerOKSpec : ChangeSpec := { name := "fnExactFramerOK", fn := fun _ => fun
  | [d] => { results := [.lit (.bool true)], args := [d] }
  | _ => none }
def fnExactFramerOKRow : OpenClaim := { program := "ytopebociobgmhaa", sum := "74a86c14b6a6dc9a1de50a76e4fa45011429eb7b65440952e2bbc5bbd299d335", func := "loop.example/g00524/laws.FnExactFramerOK", spec := "fnExactFramerOK", apart := false }
def FnExactFramerOKSaid : Prop := fnExactFramerOKRow.holds Try.pinned (OpenSpec.ofChange fnExactFramerOKSpec)

/-- ITS FALSE NEIGHBOUR: 'it returns false'. Refute it at one input. -/
def fnExactFramerOKWrong : ChangeSpec := { name := "fnExactFramerOK", fn := fun _ => fun
  | [d] => { results := [.lit (.bool false)], args := [d] }
  | _ => none }
def FnExactFramerOKWrongFalsely : Prop := fnExactFramerOKRow.holds Try.pinned (OpenSpec.ofChange fnExactFramerOKWrong)

/-- 'laws.FnExactFeedAll': WHATEVER THE INPUT: true; the input reads as it did. -/
def fnExactFeedAllSpec : ChangeSpec := { name := "fnExactFeedAll", fn := fun _ => fun
  | [d] => { results := [.lit (.bool true)], args := [d] }
  | _ => none }
def fnExactFeedAllRow : OpenClaim := { program := "ytopebociobgmhaa", sum := "74a86c14b6a6dc9a1de50a76e4fa45011429eb7b65440952e2bbc5bbd299d335", func := "loop.example/g00524/laws.FnExactFeedAll", spec := "fnExactFeedAll", apart := false }
def FnExactFeedAllSaid : Prop := fnExactFeedAllRow.holds Try.pinned (OpenSpec.ofChange fnExactFeedAllSpec)

/-- ITS FALSE NEIGHBOUR: 'it returns false'. Refute it at one input. -/
def fnExactFeedAllWrong : ChangeSpec := { name := "fnExactFeedAll", fn := fun _ => fun
  | [d] => { results := [.lit (.bool false)], args := [d] }
  | _ => none }
def FnExactFeedAllWrongFalsely : Prop := fnExactFeedAllRow.holds Try.pinned (OpenSpec.ofChange fnExactFeedAllWrong)

/-- 'laws.FnExactFeed': WHATEVER THE INPUT: true; the input reads as it did. -/
def fnExactFeedSpec : ChangeSpec := { name := "fnExactFeed", fn := fun _ => fun
  | [d1, d2] => { results := [.lit (.bool true)], args := [d1, d2] }
  | _ => none }
def fnExactFeedRow : OpenClaim := { program := "ytopebociobgmhaa", sum := "74a86c14b6a6dc9a1de50a76e4fa45011429eb7b65440952e2bbc5bbd299d335", func := "loop.example/g00524/laws.FnExactFeed", spec := "fnExactFeed", apart := false }
def FnExactFeedSaid : Prop := fnExactFeedRow.holds Try.pinned (OpenSpec.ofChange fnExactFeedSpec)

/-- ITS FALSE NEIGHBOUR: 'it returns false'. Refute it at one input. -/
def fnExactFeedWrong : ChangeSpec := { name := "fnExactFeed", fn := fun _ => fun
  | [d1, d2] => { results := [.lit (.bool false)], args := [d1, d2] }
  | _ => none }
def FnExactFeedWrongFalsely : Prop := fnExactFeedRow.holds Try.pinned (OpenSpec.ofChange fnExactFeedWrong)

/-- 'laws.FnFrames': WHATEVER THE INPUT: true; the input reads as it did. -/
def fnFramesSpec : ChangeSpec := { name := "fnFrames", fn := fun _ => fun
  | [d1, d2] => { results := [.lit (.bool true)], args := [d1, d2] }
  | _ => none }
def fnFramesRow : OpenClaim := { program := "ytopebociobgmhaa", sum := "74a86c14b6a6dc9a1de50a76e4fa45011429eb7b65440952e2bbc5bbd299d335", func := "loop.example/g00524/laws.FnFrames", spec := "fnFrames", recurses := true, apart := false }
def FnFramesSaid : Prop := fnFramesRow.holds Try.pinned (OpenSpec.ofChange fnFramesSpec)

/-- ITS FALSE NEIGHBOUR: 'it returns false'. Refute it at one input. -/
def fnFramesWrong : ChangeSpec := { name := "fnFrames", fn := fun _ => fun
  | [d1, d2] => { results := [.lit (.bool false)], args := [d1, d2] }
  | _ => none }
def FnFramesWrongFalsely : Prop := fnFramesRow.holds Try.pinned (OpenSpec.ofChange fnFramesWrong)

/- THE SECOND FORM. 'bulk': how many values and letters a reading holds, each counted each time it is reached (what is shared counts as often as it is met; a slice's spare places count too). A statement '..UptoSaid' is the law's where the arguments, and the package variables that the reading takes, are together of bulk at most 1048576: NARROWER than '..Said'. Prove '..Said' where nothing that the law and all that it calls make is longer than what came in: it says more and counts as full. Else prove '..UptoSaid'. A law counts once. -/
mutual
def uptoBulk {H : Type} : DataW H → Nat
  | .lit (.string bytes) => bytes.length + 1
  | .lit _ => 1
  | .nil => 1
  | .ptr d => uptoBulk d + 1
  | .slice elems spare => uptoBulkAll elems + uptoBulkAll spare + 1
  | .agg parts => uptoBulkAll parts + 1
  | .iface _ d => uptoBulk d + 1
  | .map entries => uptoBulkEntries entries + 1
  | .held _ => 1
def uptoBulkAll {H : Type} : List (DataW H) → Nat
  | [] => 0
  | d :: r => uptoBulk d + uptoBulkAll r
def uptoBulkEntries {H : Type} : List (Lit × DataW H) → Nat
  | [] => 0
  | x :: r => uptoBulkEntry x + uptoBulkEntries r
def uptoBulkEntry {H : Type} : Lit × DataW H → Nat
  | (.string bytes, d) => bytes.length + uptoBulk d + 1
  | (_, d) => uptoBulk d + 1
 end
def uptoSmall : (H : Type) → List (DataW H) → Bool := fun _ ds => decide (uptoBulkAll ds ≤ 1048576)
def OpenSpec.upto (s : _root_.Go.ChangeSpec) : _root_.Go.OpenSpec := { _root_.Go.OpenSpec.ofChange s with cond := some uptoSmall }

/-- 'laws.FnExactFrameText', WHERE WHAT IT READS IS OF BULK AT MOST 1048576: true; the input reads as it did. -/
def fnExactFrameTextUptoRow : OpenClaim := { program := "ytopebociobgmhaa", sum := "74a86c14b6a6dc9a1de50a76e4fa45011429eb7b65440952e2bbc5bbd299d335", func := "loop.example/g00524/laws.FnExactFrameText", spec := "fnExactFrameText", apart := false, narrowed := true }
def FnExactFrameTextUptoSaid : Prop := fnExactFrameTextUptoRow.holds Try.pinned (OpenSpec.upto fnExactFrameTextSpec)

/-- 'laws.FnExactFramerOK', WHERE WHAT IT READS IS OF BULK AT MOST 1048576: true; the input reads as it did. -/
def fnExactFramerOKUptoRow : OpenClaim := { program := "ytopebociobgmhaa", sum := "74a86c14b6a6dc9a1de50a76e4fa45011429eb7b65440952e2bbc5bbd299d335", func := "loop.example/g00524/laws.FnExactFramerOK", spec := "fnExactFramerOK", apart := false, narrowed := true }
def FnExactFramerOKUptoSaid : Prop := fnExactFramerOKUptoRow.holds Try.pinned (OpenSpec.upto fnExactFramerOKSpec)

/-- 'laws.FnExactFeedAll', WHERE WHAT IT READS IS OF BULK AT MOST 1048576: true; the input reads as it did. -/
def fnExactFeedAllUptoRow : OpenClaim := { program := "ytopebociobgmhaa", sum := "74a86c14b6a6dc9a1de50a76e4fa45011429eb7b65440952e2bbc5bbd299d335", func := "loop.example/g00524/laws.FnExactFeedAll", spec := "fnExactFeedAll", apart := false, narrowed := true }
def FnExactFeedAllUptoSaid : Prop := fnExactFeedAllUptoRow.holds Try.pinned (OpenSpec.upto fnExactFeedAllSpec)

/-- 'laws.FnExactFeed', WHERE WHAT IT READS IS OF BULK AT MOST 1048576: true; the input reads as it did. -/
def fnExactFeedUptoRow : OpenClaim := { program := "ytopebociobgmhaa", sum := "74a86c14b6a6dc9a1de50a76e4fa45011429eb7b65440952e2bbc5bbd299d335", func := "loop.example/g00524/laws.FnExactFeed", spec := "fnExactFeed", apart := false, narrowed := true }
def FnExactFeedUptoSaid : Prop := fnExactFeedUptoRow.holds Try.pinned (OpenSpec.upto fnExactFeedSpec)

/-- 'laws.FnFrames', WHERE WHAT IT READS IS OF BULK AT MOST 1048576: true; the input reads as it did. -/
def fnFramesUptoRow : OpenClaim := { program := "ytopebociobgmhaa", sum := "74a86c14b6a6dc9a1de50a76e4fa45011429eb7b65440952e2bbc5bbd299d335", func := "loop.example/g00524/laws.FnFrames", spec := "fnFrames", recurses := true, apart := false, narrowed := true }
def FnFramesUptoSaid : Prop := fnFramesUptoRow.holds Try.pinned (OpenSpec.upto fnFramesSpec)

end Rows
end Go.Proofs.Ytopebociobgmhaa

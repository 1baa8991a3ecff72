/-
  No cell of these rows narrows 'for every input' (looked for: loops, veiled, ifaces, maps, wideKeys, modest, calm, conditions, laid).
  DERIVED. THE GIVEN ROWS OF THIS SEAT. 4 by the template 'for every input the law returns true; each argument reads behind the call as it read before'; 0 by the template 'total and deterministic' (their statements: YtlomaojlpodibaaGreatTotals.lean).
  GIVEN WITH THE SEED: the statements are not yours to turn. If you find one false, say at which input.
  Laid BY PROGRAM, IN A SANDBOX (cutbox-rows.mjs): the forced cells as the released guide's own fill.sh prints them over the translation c020f6fe375fbddc… (all of the seat's roots in one cut). By AI agents, Wed Nov 11 2026. No macro, syntax, notation, axiom, sorry.
-/
import Derived.Test.YtlomaojlpodibaaGreatChecked
import GoSem.Claim
import GoSem.ClaimJoined
import GoSem.ClaimMapViews
import Derived.JoinedTies
import Derived.KernelRfl
namespace Go.Proofs.YtlomaojlpodibaaGreat
/- THE CELL 'sum', in the pinned program and in every row, IS THE sha256 OF THE DUMP (.gsa) THAT YtlomaojlpodibaaGreatProg.lean LOADS. Nothing in Lean hashes anything: it is a label: what it is worth is what the hold of that sum in a sandbox is worth. -/
noncomputable def Tryz.pinned : Pinned := { name := "ytlomaojlpodibaagreat", sum := "c020f6fe375fbddc3efc01c82bb3e42b1fd659dc09f63a0f736229aeffed23a0", checked := Tryz.checked }
namespace Rows
def none {H : Type} : Left H := { results := [], args := [] }

/-- 'laws.FnConds': WHATEVER THE INPUT: true; the input reads as it did. -/
def fnCondsSpec : ChangeSpec := { name := "fnConds", fn := fun _ => fun
  | [d1, d2] => { results := [.lit (.bool true)], args := [d1, d2] }
  | _ => none }
def fnCondsRow : OpenClaim := { program := "ytlomaojlpodibaagreat", sum := "c020f6fe375fbddc3efc01c82bb3e42b1fd659dc09f63a0f736229aeffed23a0", func := "loop.example/g00524/laws.FnConds", spec := "fnConds", inPlace := ["internal/bytealg.abigen_runtime_cmpstring"], unfollowed := true, recurses := true, apart := false }
def FnCondsSaid : Prop := fnCondsRow.holds Tryz.pinned (OpenSpec.ofChange fnCondsSpec)

/-- ITS FALSE NEIGHBOUR: 'it returns false'. Refute it at one input. -/
def fnCondsWrong : ChangeSpec := { name := "fnConds", fn := fun _ => fun
  | [d1, d2] => { results := [.lit (.bool false)], args := [d1, d2] }
  | _ => none }
def FnCondsWrongFalsely : Prop := fnCondsRow.holds Tryz.pinned (OpenSpec.ofChange fnCondsWrong)

/-- 'laws.FnPrune': WHATEVER THE INPUT: true; the input reads as it did. -/
def fnPruneSpec : ChangeSpec := { name := "fnPrune", fn := fun _ => fun
  | [d1, d2] => { results := [.lit (.bool true)], args := [d1, d2] }
  | _ => none }
def fnPruneRow : OpenClaim := { program := "ytlomaojlpodibaagreat", sum := "c020f6fe375fbddc3efc01c82bb3e42b1fd659dc09f63a0f736229aeffed23a0", func := "loop.example/g00524/laws.FnPrune", spec := "fnPrune", inPlace := ["internal/bytealg.abigen_runtime_cmpstring"], unfollowed := true, recurses := true, apart := false }
def FnPruneSaid : Prop := fnPruneRow.holds Tryz.pinned (OpenSpec.ofChange fnPruneSpec)

/-- ITS FALSE NEIGHBOUR: 'it returns false'. Refute it at one input. -/
def fnPruneWrong : ChangeSpec := { name := "fnPrune", fn := fun _ => fun
  | [d1, d2] => { results := [.lit (.bool false)], args := [d1, d2] }
  | _ => none }
def FnPruneWrongFalsely : Prop := fnPruneRow.holds Tryz.pinned (OpenSpec.ofChange fnPruneWrong)

/-- 'laws.FnQuiet': WHATEVER THE INPUT: true; the input reads as it did. -/
def fnQuietSpec : ChangeSpec := { name := "fnQuiet", fn := fun _ => fun
  | [d1, d2] => { results := [.lit (.bool true)], args := [d1, d2] }
  | _ => none }
def fnQuietRow : OpenClaim := { program := "ytlomaojlpodibaagreat", sum := "c020f6fe375fbddc3efc01c82bb3e42b1fd659dc09f63a0f736229aeffed23a0", func := "loop.example/g00524/laws.FnQuiet", spec := "fnQuiet", inPlace := ["internal/bytealg.abigen_runtime_cmpstring"], unfollowed := true, recurses := true, apart := false }
def FnQuietSaid : Prop := fnQuietRow.holds Tryz.pinned (OpenSpec.ofChange fnQuietSpec)

/-- ITS FALSE NEIGHBOUR: 'it returns false'. Refute it at one input. -/
def fnQuietWrong : ChangeSpec := { name := "fnQuiet", fn := fun _ => fun
  | [d1, d2] => { results := [.lit (.bool false)], args := [d1, d2] }
  | _ => none }
def FnQuietWrongFalsely : Prop := fnQuietRow.holds Tryz.pinned (OpenSpec.ofChange fnQuietWrong)

/-- 'laws.FnMonitor': WHATEVER THE INPUT: true; the input reads as it did. -/
def fnMonitorSpec : ChangeSpec := { name := "fnMonitor", fn := fun _ => fun
  | [d1, d2] => { results := [.lit (.bool true)], args := [d1, d2] }
  | _ => none }
def fnMonitorRow : OpenClaim := { program := "ytlomaojlpodibaagreat", sum := "c020f6fe375fbddc3efc01c82bb3e42b1fd659dc09f63a0f736229aeffed23a0", func := "loop.example/g00524/laws.FnMonitor", spec := "fnMonitor", inPlace := ["internal/bytealg.abigen_runtime_cmpstring", "slices.overlaps[loop.example/g00524/impl.Row]"], unfollowed := true, recurses := true, apart := false }
def FnMonitorSaid : Prop := fnMonitorRow.holds Tryz.pinned (OpenSpec.ofChange fnMonitorSpec)

/-- ITS FALSE NEIGHBOUR: 'it returns false'. Refute it at one input. -/
def fnMonitorWrong : ChangeSpec := { name := "fnMonitor", fn := fun _ => fun
  | [d1, d2] => { results := [.lit (.bool false)], args := [d1, d2] }
  | _ => none }
def FnMonitorWrongFalsely : Prop := fnMonitorRow.holds Tryz.pinned (OpenSpec.ofChange fnMonitorWrong)

/- THE SECOND FORM. 'bulk': how many values and letters a reading holds, each counted each time it is reached (what is shared counts as often as it is met; a slice's spare places count too). A statement '..UptoSaid' is the law's where the arguments, and the package variables that the reading takes, are together of bulk at most 1048576: NARROWER than '..Said'. Prove '..Said' where nothing that the law and all that it calls make is longer than what came in: it says more and counts as full. Else prove '..UptoSaid'. A law counts once. -/
mutual
def uptoBulk {H : Type} : DataW H → Nat
  | .lit (.string bytes) => bytes.length + 1
  | .lit _ => 1
  | .nil => 1
  | .ptr d => uptoBulk d + 1
  | .slice elems spare => uptoBulkAll elems + uptoBulkAll spare + 1
  | .agg parts => uptoBulkAll parts + 1
  | .iface _ d => uptoBulk d + 1
  | .map entries => uptoBulkEntries entries + 1
  | .held _ => 1
def uptoBulkAll {H : Type} : List (DataW H) → Nat
  | [] => 0
  | d :: r => uptoBulk d + uptoBulkAll r
def uptoBulkEntries {H : Type} : List (Lit × DataW H) → Nat
  | [] => 0
  | x :: r => uptoBulkEntry x + uptoBulkEntries r
def uptoBulkEntry {H : Type} : Lit × DataW H → Nat
  | (.string bytes, d) => bytes.length + uptoBulk d + 1
  | (_, d) => uptoBulk d + 1
 end
def uptoSmall : (H : Type) → List (DataW H) → Bool := fun _ ds => decide (uptoBulkAll ds ≤ 1048576)
def OpenSpec.upto (s : _root_.Go.ChangeSpec) : _root_.Go.OpenSpec := { _root_.Go.OpenSpec.ofChange s with cond := some uptoSmall }

/-- 'laws.FnConds', WHERE WHAT IT READS IS OF BULK AT MOST 1048576: true; the input reads as it did. -/
def fnCondsUptoRow : OpenClaim := { program := "ytlomaojlpodibaagreat", sum := "c020f6fe375fbddc3efc01c82bb3e42b1fd659dc09f63a0f736229aeffed23a0", func := "loop.example/g00524/laws.FnConds", spec := "fnConds", inPlace := ["internal/bytealg.abigen_runtime_cmpstring"], unfollowed := true, recurses := true, apart := false, narrowed := true }
def FnCondsUptoSaid : Prop := fnCondsUptoRow.holds Tryz.pinned (OpenSpec.upto fnCondsSpec)

/-- 'laws.FnPrune', WHERE WHAT IT READS IS OF BULK AT MOST 1048576: true; the input reads as it did. -/
def fnPruneUptoRow : OpenClaim := { program := "ytlomaojlpodibaagreat", sum := "c020f6fe375fbddc3efc01c82bb3e42b1fd659dc09f63a0f736229aeffed23a0", func := "loop.example/g00524/laws.FnPrune", spec := "fnPrune", inPlace := ["internal/bytealg.abigen_runtime_cmpstring"], unfollowed := true, recurses := true, apart := false, narrowed := true }
def FnPruneUptoSaid : Prop := fnPruneUptoRow.holds Tryz.pinned (OpenSpec.upto fnPruneSpec)

/-- 'laws.FnQuiet', WHERE WHAT IT READS IS OF BULK AT MOST 1048576: true; the input reads as it did. -/
def fnQuietUptoRow : OpenClaim := { program := "ytlomaojlpodibaagreat", sum := "c020f6fe375fbddc3efc01c82bb3e42b1fd659dc09f63a0f736229aeffed23a0", func := "loop.example/g00524/laws.FnQuiet", spec := "fnQuiet", inPlace := ["internal/bytealg.abigen_runtime_cmpstring"], unfollowed := true, recurses := true, apart := false, narrowed := true }
def FnQuietUptoSaid : Prop := fnQuietUptoRow.holds Tryz.pinned (OpenSpec.upto fnQuietSpec)

/-- 'laws.FnMonitor', WHERE WHAT IT READS IS OF BULK AT MOST 1048576: true; the input reads as it did. -/
def fnMonitorUptoRow : OpenClaim := { program := "ytlomaojlpodibaagreat", sum := "c020f6fe375fbddc3efc01c82bb3e42b1fd659dc09f63a0f736229aeffed23a0", func := "loop.example/g00524/laws.FnMonitor", spec := "fnMonitor", inPlace := ["internal/bytealg.abigen_runtime_cmpstring", "slices.overlaps[loop.example/g00524/impl.Row]"], unfollowed := true, recurses := true, apart := false, narrowed := true }
def FnMonitorUptoSaid : Prop := fnMonitorUptoRow.holds Tryz.pinned (OpenSpec.upto fnMonitorSpec)

end Rows
end Go.Proofs.YtlomaojlpodibaaGreat

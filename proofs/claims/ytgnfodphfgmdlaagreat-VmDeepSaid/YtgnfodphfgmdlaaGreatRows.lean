/-
  No cell of these rows narrows 'for every input' (looked for: loops, veiled, ifaces, maps, wideKeys, modest, calm, conditions, laid).
  DERIVED. THE GIVEN ROWS OF THIS SEAT. 10 by the template 'for every input the law returns true; each argument reads behind the call as it read before'; 0 by the template 'total and deterministic' (their statements: YtgnfodphfgmdlaaGreatTotals.lean).
  GIVEN WITH THE SEED: the statements are not yours to turn. If you find one false, say at which input.
  Laid BY PROGRAM, IN A SANDBOX (cutbox-rows.mjs): the forced cells as the released guide's own fill.sh prints them over the translation 36060021157caa67… (all of the seat's roots in one cut). By AI agents, Wed Nov 11 2026. No macro, syntax, notation, axiom, sorry.
-/
import Derived.Test.YtgnfodphfgmdlaaGreatChecked
import GoSem.Claim
import GoSem.ClaimJoined
import GoSem.ClaimMapViews
import Derived.JoinedTies
import Derived.KernelRfl
namespace Go.Proofs.YtgnfodphfgmdlaaGreat
/- THE CELL 'sum', in the pinned program and in every row, IS THE sha256 OF THE DUMP (.gsa) THAT YtgnfodphfgmdlaaGreatProg.lean LOADS. Nothing in Lean hashes anything: it is a label: what it is worth is what the hold of that sum in a sandbox is worth. -/
noncomputable def Tryz.pinned : Pinned := { name := "ytgnfodphfgmdlaagreat", sum := "36060021157caa6717deeba4f4af49a0370f79705e7c0bc3e3bff43930d7cb22", checked := Tryz.checked }
namespace Rows
def none {H : Type} : Left H := { results := [], args := [] }

/-- 'bellowslaw06.VmTurned': WHATEVER THE INPUT: true; the input reads as it did. -/
def vmTurnedSpec : ChangeSpec := { name := "vmTurned", fn := fun _ => fun
  | [d1, d2] => { results := [.lit (.bool true)], args := [d1, d2] }
  | _ => none }
def vmTurnedRow : OpenClaim := { program := "ytgnfodphfgmdlaagreat", sum := "36060021157caa6717deeba4f4af49a0370f79705e7c0bc3e3bff43930d7cb22", func := "bellows/bellowslaw06.VmTurned", spec := "vmTurned", inPlace := ["internal/bytealg.abigen_runtime_cmpstring"], unfollowed := true, recurses := true, apart := false }
def VmTurnedSaid : Prop := vmTurnedRow.holds Tryz.pinned (OpenSpec.ofChange vmTurnedSpec)

/-- ITS FALSE NEIGHBOUR: 'it returns false'. Refute it at one input. -/
def vmTurnedWrong : ChangeSpec := { name := "vmTurned", fn := fun _ => fun
  | [d1, d2] => { results := [.lit (.bool false)], args := [d1, d2] }
  | _ => none }
def VmTurnedWrongFalsely : Prop := vmTurnedRow.holds Tryz.pinned (OpenSpec.ofChange vmTurnedWrong)

/-- 'bellowslaw06.VmStuck': WHATEVER THE INPUT: true; the input reads as it did. -/
def vmStuckSpec : ChangeSpec := { name := "vmStuck", fn := fun _ => fun
  | [d1, d2] => { results := [.lit (.bool true)], args := [d1, d2] }
  | _ => none }
def vmStuckRow : OpenClaim := { program := "ytgnfodphfgmdlaagreat", sum := "36060021157caa6717deeba4f4af49a0370f79705e7c0bc3e3bff43930d7cb22", func := "bellows/bellowslaw06.VmStuck", spec := "vmStuck", inPlace := ["internal/bytealg.abigen_runtime_cmpstring"], unfollowed := true, recurses := true, apart := false }
def VmStuckSaid : Prop := vmStuckRow.holds Tryz.pinned (OpenSpec.ofChange vmStuckSpec)

/-- ITS FALSE NEIGHBOUR: 'it returns false'. Refute it at one input. -/
def vmStuckWrong : ChangeSpec := { name := "vmStuck", fn := fun _ => fun
  | [d1, d2] => { results := [.lit (.bool false)], args := [d1, d2] }
  | _ => none }
def VmStuckWrongFalsely : Prop := vmStuckRow.holds Tryz.pinned (OpenSpec.ofChange vmStuckWrong)

/-- 'bellowslaw06.VmSwept': WHATEVER THE INPUT: true; the input reads as it did. -/
def vmSweptSpec : ChangeSpec := { name := "vmSwept", fn := fun _ => fun
  | [d1, d2, d3] => { results := [.lit (.bool true)], args := [d1, d2, d3] }
  | _ => none }
def vmSweptRow : OpenClaim := { program := "ytgnfodphfgmdlaagreat", sum := "36060021157caa6717deeba4f4af49a0370f79705e7c0bc3e3bff43930d7cb22", func := "bellows/bellowslaw06.VmSwept", spec := "vmSwept", inPlace := ["internal/bytealg.abigen_runtime_cmpstring"], unfollowed := true, recurses := true, apart := false }
def VmSweptSaid : Prop := vmSweptRow.holds Tryz.pinned (OpenSpec.ofChange vmSweptSpec)

/-- ITS FALSE NEIGHBOUR: 'it returns false'. Refute it at one input. -/
def vmSweptWrong : ChangeSpec := { name := "vmSwept", fn := fun _ => fun
  | [d1, d2, d3] => { results := [.lit (.bool false)], args := [d1, d2, d3] }
  | _ => none }
def VmSweptWrongFalsely : Prop := vmSweptRow.holds Tryz.pinned (OpenSpec.ofChange vmSweptWrong)

/-- 'bellowslaw06.VmAlways': WHATEVER THE INPUT: true; the input reads as it did. -/
def vmAlwaysSpec : ChangeSpec := { name := "vmAlways", fn := fun _ => fun
  | [d1, d2, d3] => { results := [.lit (.bool true)], args := [d1, d2, d3] }
  | _ => none }
def vmAlwaysRow : OpenClaim := { program := "ytgnfodphfgmdlaagreat", sum := "36060021157caa6717deeba4f4af49a0370f79705e7c0bc3e3bff43930d7cb22", func := "bellows/bellowslaw06.VmAlways", spec := "vmAlways", inPlace := ["internal/bytealg.abigen_runtime_cmpstring"], unfollowed := true, recurses := true, apart := false }
def VmAlwaysSaid : Prop := vmAlwaysRow.holds Tryz.pinned (OpenSpec.ofChange vmAlwaysSpec)

/-- ITS FALSE NEIGHBOUR: 'it returns false'. Refute it at one input. -/
def vmAlwaysWrong : ChangeSpec := { name := "vmAlways", fn := fun _ => fun
  | [d1, d2, d3] => { results := [.lit (.bool false)], args := [d1, d2, d3] }
  | _ => none }
def VmAlwaysWrongFalsely : Prop := vmAlwaysRow.holds Tryz.pinned (OpenSpec.ofChange vmAlwaysWrong)

/-- 'bellowslaw06.VmMore': WHATEVER THE INPUT: true; the input reads as it did. -/
def vmMoreSpec : ChangeSpec := { name := "vmMore", fn := fun _ => fun
  | [d1, d2, d3] => { results := [.lit (.bool true)], args := [d1, d2, d3] }
  | _ => none }
def vmMoreRow : OpenClaim := { program := "ytgnfodphfgmdlaagreat", sum := "36060021157caa6717deeba4f4af49a0370f79705e7c0bc3e3bff43930d7cb22", func := "bellows/bellowslaw06.VmMore", spec := "vmMore", inPlace := ["internal/bytealg.abigen_runtime_cmpstring"], unfollowed := true, recurses := true, apart := false }
def VmMoreSaid : Prop := vmMoreRow.holds Tryz.pinned (OpenSpec.ofChange vmMoreSpec)

/-- ITS FALSE NEIGHBOUR: 'it returns false'. Refute it at one input. -/
def vmMoreWrong : ChangeSpec := { name := "vmMore", fn := fun _ => fun
  | [d1, d2, d3] => { results := [.lit (.bool false)], args := [d1, d2, d3] }
  | _ => none }
def VmMoreWrongFalsely : Prop := vmMoreRow.holds Tryz.pinned (OpenSpec.ofChange vmMoreWrong)

/-- 'bellowslaw06.VmSteps': WHATEVER THE INPUT: true; the input reads as it did. -/
def vmStepsSpec : ChangeSpec := { name := "vmSteps", fn := fun _ => fun
  | [d1, d2, d3] => { results := [.lit (.bool true)], args := [d1, d2, d3] }
  | _ => none }
def vmStepsRow : OpenClaim := { program := "ytgnfodphfgmdlaagreat", sum := "36060021157caa6717deeba4f4af49a0370f79705e7c0bc3e3bff43930d7cb22", func := "bellows/bellowslaw06.VmSteps", spec := "vmSteps", inPlace := ["internal/bytealg.abigen_runtime_cmpstring"], unfollowed := true, recurses := true, apart := false }
def VmStepsSaid : Prop := vmStepsRow.holds Tryz.pinned (OpenSpec.ofChange vmStepsSpec)

/-- ITS FALSE NEIGHBOUR: 'it returns false'. Refute it at one input. -/
def vmStepsWrong : ChangeSpec := { name := "vmSteps", fn := fun _ => fun
  | [d1, d2, d3] => { results := [.lit (.bool false)], args := [d1, d2, d3] }
  | _ => none }
def VmStepsWrongFalsely : Prop := vmStepsRow.holds Tryz.pinned (OpenSpec.ofChange vmStepsWrong)

/-- 'bellowslaw06.VmTexts': WHATEVER THE INPUT: true; the input reads as it did. -/
def vmTextsSpec : ChangeSpec := { name := "vmTexts", fn := fun _ => fun
  | [d1, d2, d3] => { results := [.lit (.bool true)], args := [d1, d2, d3] }
  | _ => none }
def vmTextsRow : OpenClaim := { program := "ytgnfodphfgmdlaagreat", sum := "36060021157caa6717deeba4f4af49a0370f79705e7c0bc3e3bff43930d7cb22", func := "bellows/bellowslaw06.VmTexts", spec := "vmTexts", inPlace := ["internal/bytealg.abigen_runtime_cmpstring"], unfollowed := true, recurses := true, apart := false }
def VmTextsSaid : Prop := vmTextsRow.holds Tryz.pinned (OpenSpec.ofChange vmTextsSpec)

/-- ITS FALSE NEIGHBOUR: 'it returns false'. Refute it at one input. -/
def vmTextsWrong : ChangeSpec := { name := "vmTexts", fn := fun _ => fun
  | [d1, d2, d3] => { results := [.lit (.bool false)], args := [d1, d2, d3] }
  | _ => none }
def VmTextsWrongFalsely : Prop := vmTextsRow.holds Tryz.pinned (OpenSpec.ofChange vmTextsWrong)

/-- 'bellowslaw06.VmArrays': WHATEVER THE INPUT: true; the input reads as it did. -/
def vmArraysSpec : ChangeSpec := { name := "vmArrays", fn := fun _ => fun
  | [d1, d2, d3] => { results := [.lit (.bool true)], args := [d1, d2, d3] }
  | _ => none }
def vmArraysRow : OpenClaim := { program := "ytgnfodphfgmdlaagreat", sum := "36060021157caa6717deeba4f4af49a0370f79705e7c0bc3e3bff43930d7cb22", func := "bellows/bellowslaw06.VmArrays", spec := "vmArrays", inPlace := ["internal/bytealg.abigen_runtime_cmpstring"], unfollowed := true, recurses := true, apart := false }
def VmArraysSaid : Prop := vmArraysRow.holds Tryz.pinned (OpenSpec.ofChange vmArraysSpec)

/-- ITS FALSE NEIGHBOUR: 'it returns false'. Refute it at one input. -/
def vmArraysWrong : ChangeSpec := { name := "vmArrays", fn := fun _ => fun
  | [d1, d2, d3] => { results := [.lit (.bool false)], args := [d1, d2, d3] }
  | _ => none }
def VmArraysWrongFalsely : Prop := vmArraysRow.holds Tryz.pinned (OpenSpec.ofChange vmArraysWrong)

/-- 'bellowslaw06.VmDeep': WHATEVER THE INPUT: true; the input reads as it did. -/
def vmDeepSpec : ChangeSpec := { name := "vmDeep", fn := fun _ => fun
  | [d1, d2, d3] => { results := [.lit (.bool true)], args := [d1, d2, d3] }
  | _ => none }
def vmDeepRow : OpenClaim := { program := "ytgnfodphfgmdlaagreat", sum := "36060021157caa6717deeba4f4af49a0370f79705e7c0bc3e3bff43930d7cb22", func := "bellows/bellowslaw06.VmDeep", spec := "vmDeep", inPlace := ["internal/bytealg.abigen_runtime_cmpstring"], unfollowed := true, recurses := true, apart := false }
def VmDeepSaid : Prop := vmDeepRow.holds Tryz.pinned (OpenSpec.ofChange vmDeepSpec)

/-- ITS FALSE NEIGHBOUR: 'it returns false'. Refute it at one input. -/
def vmDeepWrong : ChangeSpec := { name := "vmDeep", fn := fun _ => fun
  | [d1, d2, d3] => { results := [.lit (.bool false)], args := [d1, d2, d3] }
  | _ => none }
def VmDeepWrongFalsely : Prop := vmDeepRow.holds Tryz.pinned (OpenSpec.ofChange vmDeepWrong)

/-- 'bellowslaw06.VmCoded': WHATEVER THE INPUT: true; the input reads as it did. -/
def vmCodedSpec : ChangeSpec := { name := "vmCoded", fn := fun _ => fun
  | [d1, d2] => { results := [.lit (.bool true)], args := [d1, d2] }
  | _ => none }
def vmCodedRow : OpenClaim := { program := "ytgnfodphfgmdlaagreat", sum := "36060021157caa6717deeba4f4af49a0370f79705e7c0bc3e3bff43930d7cb22", func := "bellows/bellowslaw06.VmCoded", spec := "vmCoded", inPlace := ["internal/bytealg.abigen_runtime_cmpstring"], unfollowed := true, recurses := true, apart := false }
def VmCodedSaid : Prop := vmCodedRow.holds Tryz.pinned (OpenSpec.ofChange vmCodedSpec)

/-- ITS FALSE NEIGHBOUR: 'it returns false'. Refute it at one input. -/
def vmCodedWrong : ChangeSpec := { name := "vmCoded", fn := fun _ => fun
  | [d1, d2] => { results := [.lit (.bool false)], args := [d1, d2] }
  | _ => none }
def VmCodedWrongFalsely : Prop := vmCodedRow.holds Tryz.pinned (OpenSpec.ofChange vmCodedWrong)

/- THE SECOND FORM. 'bulk': how many values and letters a reading holds, each counted each time it is reached (what is shared counts as often as it is met; a slice's spare places count too). A statement '..UptoSaid' is the law's where the arguments, and the package variables that the reading takes, are together of bulk at most 1048576: NARROWER than '..Said'. Prove '..Said' where nothing that the law and all that it calls make is longer than what came in: it says more and counts as full. Else prove '..UptoSaid'. A law counts once. -/
mutual
def uptoBulk {H : Type} : DataW H → Nat
  | .lit (.string bytes) => bytes.length + 1
  | .lit _ => 1
  | .nil => 1
  | .ptr d => uptoBulk d + 1
  | .slice elems spare => uptoBulkAll elems + uptoBulkAll spare + 1
  | .agg parts => uptoBulkAll parts + 1
  | .iface _ d => uptoBulk d + 1
  | .map entries => uptoBulkEntries entries + 1
  | .held _ => 1
def uptoBulkAll {H : Type} : List (DataW H) → Nat
  | [] => 0
  | d :: r => uptoBulk d + uptoBulkAll r
def uptoBulkEntries {H : Type} : List (Lit × DataW H) → Nat
  | [] => 0
  | x :: r => uptoBulkEntry x + uptoBulkEntries r
def uptoBulkEntry {H : Type} : Lit × DataW H → Nat
  | (.string bytes, d) => bytes.length + uptoBulk d + 1
  | (_, d) => uptoBulk d + 1
 end
def uptoSmall : (H : Type) → List (DataW H) → Bool := fun _ ds => decide (uptoBulkAll ds ≤ 1048576)
def OpenSpec.upto (s : _root_.Go.ChangeSpec) : _root_.Go.OpenSpec := { _root_.Go.OpenSpec.ofChange s with cond := some uptoSmall }

/-- 'bellowslaw06.VmTurned', WHERE WHAT IT READS IS OF BULK AT MOST 1048576: true; the input reads as it did. -/
def vmTurnedUptoRow : OpenClaim := { program := "ytgnfodphfgmdlaagreat", sum := "36060021157caa6717deeba4f4af49a0370f79705e7c0bc3e3bff43930d7cb22", func := "bellows/bellowslaw06.VmTurned", spec := "vmTurned", inPlace := ["internal/bytealg.abigen_runtime_cmpstring"], unfollowed := true, recurses := true, apart := false, narrowed := true }
def VmTurnedUptoSaid : Prop := vmTurnedUptoRow.holds Tryz.pinned (OpenSpec.upto vmTurnedSpec)

/-- 'bellowslaw06.VmStuck', WHERE WHAT IT READS IS OF BULK AT MOST 1048576: true; the input reads as it did. -/
def vmStuckUptoRow : OpenClaim := { program := "ytgnfodphfgmdlaagreat", sum := "36060021157caa6717deeba4f4af49a0370f79705e7c0bc3e3bff43930d7cb22", func := "bellows/bellowslaw06.VmStuck", spec := "vmStuck", inPlace := ["internal/bytealg.abigen_runtime_cmpstring"], unfollowed := true, recurses := true, apart := false, narrowed := true }
def VmStuckUptoSaid : Prop := vmStuckUptoRow.holds Tryz.pinned (OpenSpec.upto vmStuckSpec)

/-- 'bellowslaw06.VmSwept', WHERE WHAT IT READS IS OF BULK AT MOST 1048576: true; the input reads as it did. -/
def vmSweptUptoRow : OpenClaim := { program := "ytgnfodphfgmdlaagreat", sum := "36060021157caa6717deeba4f4af49a0370f79705e7c0bc3e3bff43930d7cb22", func := "bellows/bellowslaw06.VmSwept", spec := "vmSwept", inPlace := ["internal/bytealg.abigen_runtime_cmpstring"], unfollowed := true, recurses := true, apart := false, narrowed := true }
def VmSweptUptoSaid : Prop := vmSweptUptoRow.holds Tryz.pinned (OpenSpec.upto vmSweptSpec)

/-- 'bellowslaw06.VmAlways', WHERE WHAT IT READS IS OF BULK AT MOST 1048576: true; the input reads as it did. -/
def vmAlwaysUptoRow : OpenClaim := { program := "ytgnfodphfgmdlaagreat", sum := "36060021157caa6717deeba4f4af49a0370f79705e7c0bc3e3bff43930d7cb22", func := "bellows/bellowslaw06.VmAlways", spec := "vmAlways", inPlace := ["internal/bytealg.abigen_runtime_cmpstring"], unfollowed := true, recurses := true, apart := false, narrowed := true }
def VmAlwaysUptoSaid : Prop := vmAlwaysUptoRow.holds Tryz.pinned (OpenSpec.upto vmAlwaysSpec)

/-- 'bellowslaw06.VmMore', WHERE WHAT IT READS IS OF BULK AT MOST 1048576: true; the input reads as it did. -/
def vmMoreUptoRow : OpenClaim := { program := "ytgnfodphfgmdlaagreat", sum := "36060021157caa6717deeba4f4af49a0370f79705e7c0bc3e3bff43930d7cb22", func := "bellows/bellowslaw06.VmMore", spec := "vmMore", inPlace := ["internal/bytealg.abigen_runtime_cmpstring"], unfollowed := true, recurses := true, apart := false, narrowed := true }
def VmMoreUptoSaid : Prop := vmMoreUptoRow.holds Tryz.pinned (OpenSpec.upto vmMoreSpec)

/-- 'bellowslaw06.VmSteps', WHERE WHAT IT READS IS OF BULK AT MOST 1048576: true; the input reads as it did. -/
def vmStepsUptoRow : OpenClaim := { program := "ytgnfodphfgmdlaagreat", sum := "36060021157caa6717deeba4f4af49a0370f79705e7c0bc3e3bff43930d7cb22", func := "bellows/bellowslaw06.VmSteps", spec := "vmSteps", inPlace := ["internal/bytealg.abigen_runtime_cmpstring"], unfollowed := true, recurses := true, apart := false, narrowed := true }
def VmStepsUptoSaid : Prop := vmStepsUptoRow.holds Tryz.pinned (OpenSpec.upto vmStepsSpec)

/-- 'bellowslaw06.VmTexts', WHERE WHAT IT READS IS OF BULK AT MOST 1048576: true; the input reads as it did. -/
def vmTextsUptoRow : OpenClaim := { program := "ytgnfodphfgmdlaagreat", sum := "36060021157caa6717deeba4f4af49a0370f79705e7c0bc3e3bff43930d7cb22", func := "bellows/bellowslaw06.VmTexts", spec := "vmTexts", inPlace := ["internal/bytealg.abigen_runtime_cmpstring"], unfollowed := true, recurses := true, apart := false, narrowed := true }
def VmTextsUptoSaid : Prop := vmTextsUptoRow.holds Tryz.pinned (OpenSpec.upto vmTextsSpec)

/-- 'bellowslaw06.VmArrays', WHERE WHAT IT READS IS OF BULK AT MOST 1048576: true; the input reads as it did. -/
def vmArraysUptoRow : OpenClaim := { program := "ytgnfodphfgmdlaagreat", sum := "36060021157caa6717deeba4f4af49a0370f79705e7c0bc3e3bff43930d7cb22", func := "bellows/bellowslaw06.VmArrays", spec := "vmArrays", inPlace := ["internal/bytealg.abigen_runtime_cmpstring"], unfollowed := true, recurses := true, apart := false, narrowed := true }
def VmArraysUptoSaid : Prop := vmArraysUptoRow.holds Tryz.pinned (OpenSpec.upto vmArraysSpec)

/-- 'bellowslaw06.VmDeep', WHERE WHAT IT READS IS OF BULK AT MOST 1048576: true; the input reads as it did. -/
def vmDeepUptoRow : OpenClaim := { program := "ytgnfodphfgmdlaagreat", sum := "36060021157caa6717deeba4f4af49a0370f79705e7c0bc3e3bff43930d7cb22", func := "bellows/bellowslaw06.VmDeep", spec := "vmDeep", inPlace := ["internal/bytealg.abigen_runtime_cmpstring"], unfollowed := true, recurses := true, apart := false, narrowed := true }
def VmDeepUptoSaid : Prop := vmDeepUptoRow.holds Tryz.pinned (OpenSpec.upto vmDeepSpec)

/-- 'bellowslaw06.VmCoded', WHERE WHAT IT READS IS OF BULK AT MOST 1048576: true; the input reads as it did. -/
def vmCodedUptoRow : OpenClaim := { program := "ytgnfodphfgmdlaagreat", sum := "36060021157caa6717deeba4f4af49a0370f79705e7c0bc3e3bff43930d7cb22", func := "bellows/bellowslaw06.VmCoded", spec := "vmCoded", inPlace := ["internal/bytealg.abigen_runtime_cmpstring"], unfollowed := true, recurses := true, apart := false, narrowed := true }
def VmCodedUptoSaid : Prop := vmCodedUptoRow.holds Tryz.pinned (OpenSpec.upto vmCodedSpec)

end Rows
end Go.Proofs.YtgnfodphfgmdlaaGreat

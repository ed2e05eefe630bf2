/-
  No cell of these rows narrows 'for every input' (looked for: loops, veiled, ifaces, maps, wideKeys, modest, calm, conditions, laid).
  DERIVED. THE GIVEN ROWS OF THIS SEAT. 9 by the template 'for every input the law returns true; each argument reads behind the call as it read before'; 0 by the template 'total and deterministic' (their statements: YtinenkjfdmajkaaTotals.lean).
  GIVEN WITH THE SEED: the statements are not yours to turn. If you find one false, say at which input.
  Laid BY PROGRAM, IN A SANDBOX (cutbox-rows.mjs): the forced cells as the released guide's own fill.sh prints them over the translation afa5cf8bd6081ccd… (all of the seat's roots in one cut). By AI agents, Wed Nov 11 2026. No macro, syntax, notation, axiom, sorry.
-/
import Derived.Test.YtinenkjfdmajkaaChecked
import GoSem.Claim
import GoSem.ClaimJoined
import GoSem.ClaimMapViews
import Derived.JoinedTies
import Derived.KernelRfl
namespace Go.Proofs.Ytinenkjfdmajkaa
/- THE CELL 'sum', in the pinned program and in every row, IS THE sha256 OF THE DUMP (.gsa) THAT YtinenkjfdmajkaaProg.lean LOADS. Nothing in Lean hashes anything: it is a label: what it is worth is what the hold of that sum in a sandbox is worth. -/
noncomputable def Try.pinned : Pinned := { name := "ytinenkjfdmajkaa", sum := "afa5cf8bd6081ccdeac03698b15e9b0e10697d8d9325edf3234e33e392741455", checked := Try.checked }
namespace Rows
def none {H : Type} : Left H := { results := [], args := [] }

/-- 'laws.FnExactDeviceOk': WHATEVER THE INPUT: true; the input reads as it did. -/
def fnExactDeviceOkSpec : ChangeSpec := { name := "fnExactDeviceOk", fn := fun _ => fun
  | [d] => { results := [.lit (.bool true)], args := [d] }
  | _ => none }
def fnExactDeviceOkRow : OpenClaim := { program := "ytinenkjfdmajkaa", sum := "afa5cf8bd6081ccdeac03698b15e9b0e10697d8d9325edf3234e33e392741455", func := "loop.example/g00705/laws.FnExactDeviceOk", spec := "fnExactDeviceOk", apart := false }
def FnExactDeviceOkSaid : Prop := fnExactDeviceOkRow.holds Try.pinned (OpenSpec.ofChange fnExactDeviceOkSpec)

/-- ITS FALSE NEIGHBOUR: 'it returns false'. Refute it at one input. -/
def fnExactDeviceOkWrong : ChangeSpec := { name := "fnExactDeviceOk", fn := fun _ => fun
  | [d] => { results := [.lit (.bool false)], args := [d] }
  | _ => none }
def FnExactDeviceOkWrongFalsely : Prop := fnExactDeviceOkRow.holds Try.pinned (OpenSpec.ofChange fnExactDeviceOkWrong)

/-- 'laws.FnExactRoleOk': WHATEVER THE INPUT: true; the input reads as it did. -/
def fnExactRoleOkSpec : ChangeSpec := { name := "fnExactRoleOk", fn := fun _ => fun
  | [d] => { results := [.lit (.bool true)], args := [d] }
  | _ => none }
def fnExactRoleOkRow : OpenClaim := { program := "ytinenkjfdmajkaa", sum := "afa5cf8bd6081ccdeac03698b15e9b0e10697d8d9325edf3234e33e392741455", func := "loop.example/g00705/laws.FnExactRoleOk", spec := "fnExactRoleOk", inPlace := ["internal/bytealg.IndexByteString"], apart := false }
def FnExactRoleOkSaid : Prop := fnExactRoleOkRow.holds Try.pinned (OpenSpec.ofChange fnExactRoleOkSpec)

/-- ITS FALSE NEIGHBOUR: 'it returns false'. Refute it at one input. -/
def fnExactRoleOkWrong : ChangeSpec := { name := "fnExactRoleOk", fn := fun _ => fun
  | [d] => { results := [.lit (.bool false)], args := [d] }
  | _ => none }
def FnExactRoleOkWrongFalsely : Prop := fnExactRoleOkRow.holds Try.pinned (OpenSpec.ofChange fnExactRoleOkWrong)

/-- 'laws.FnExactFarOk': WHATEVER THE INPUT: true; the input reads as it did. -/
def fnExactFarOkSpec : ChangeSpec := { name := "fnExactFarOk", fn := fun _ => fun
  | [d] => { results := [.lit (.bool true)], args := [d] }
  | _ => none }
def fnExactFarOkRow : OpenClaim := { program := "ytinenkjfdmajkaa", sum := "afa5cf8bd6081ccdeac03698b15e9b0e10697d8d9325edf3234e33e392741455", func := "loop.example/g00705/laws.FnExactFarOk", spec := "fnExactFarOk", inPlace := ["internal/bytealg.IndexByteString"], apart := false }
def FnExactFarOkSaid : Prop := fnExactFarOkRow.holds Try.pinned (OpenSpec.ofChange fnExactFarOkSpec)

/-- ITS FALSE NEIGHBOUR: 'it returns false'. Refute it at one input. -/
def fnExactFarOkWrong : ChangeSpec := { name := "fnExactFarOk", fn := fun _ => fun
  | [d] => { results := [.lit (.bool false)], args := [d] }
  | _ => none }
def FnExactFarOkWrongFalsely : Prop := fnExactFarOkRow.holds Try.pinned (OpenSpec.ofChange fnExactFarOkWrong)

/-- 'laws.FnExactQueueOk': WHATEVER THE INPUT: true; the input reads as it did. -/
def fnExactQueueOkSpec : ChangeSpec := { name := "fnExactQueueOk", fn := fun _ => fun
  | [d] => { results := [.lit (.bool true)], args := [d] }
  | _ => none }
def fnExactQueueOkRow : OpenClaim := { program := "ytinenkjfdmajkaa", sum := "afa5cf8bd6081ccdeac03698b15e9b0e10697d8d9325edf3234e33e392741455", func := "loop.example/g00705/laws.FnExactQueueOk", spec := "fnExactQueueOk", inPlace := ["internal/bytealg.IndexByteString"], unfollowed := true, recurses := true, apart := false }
def FnExactQueueOkSaid : Prop := fnExactQueueOkRow.holds Try.pinned (OpenSpec.ofChange fnExactQueueOkSpec)

/-- ITS FALSE NEIGHBOUR: 'it returns false'. Refute it at one input. -/
def fnExactQueueOkWrong : ChangeSpec := { name := "fnExactQueueOk", fn := fun _ => fun
  | [d] => { results := [.lit (.bool false)], args := [d] }
  | _ => none }
def FnExactQueueOkWrongFalsely : Prop := fnExactQueueOkRow.holds Try.pinned (OpenSpec.ofChange fnExactQueueOkWrong)

/-- 'laws.FnExactHasUser': WHATEVER THE INPUT: true; the input reads as it did. -/
def fnExactHasUserSpec : ChangeSpec := { name := "fnExactHasUser", fn := fun _ => fun
  | [d1, d2, d3] => { results := [.lit (.bool true)], args := [d1, d2, d3] }
  | _ => none }
def fnExactHasUserRow : OpenClaim := { program := "ytinenkjfdmajkaa", sum := "afa5cf8bd6081ccdeac03698b15e9b0e10697d8d9325edf3234e33e392741455", func := "loop.example/g00705/laws.FnExactHasUser", spec := "fnExactHasUser", inPlace := ["internal/bytealg.IndexByteString"], apart := false }
def FnExactHasUserSaid : Prop := fnExactHasUserRow.holds Try.pinned (OpenSpec.ofChange fnExactHasUserSpec)

/-- ITS FALSE NEIGHBOUR: 'it returns false'. Refute it at one input. -/
def fnExactHasUserWrong : ChangeSpec := { name := "fnExactHasUser", fn := fun _ => fun
  | [d1, d2, d3] => { results := [.lit (.bool false)], args := [d1, d2, d3] }
  | _ => none }
def FnExactHasUserWrongFalsely : Prop := fnExactHasUserRow.holds Try.pinned (OpenSpec.ofChange fnExactHasUserWrong)

/-- 'laws.FnExactQueueDrop': WHATEVER THE INPUT: true; the input reads as it did. -/
def fnExactQueueDropSpec : ChangeSpec := { name := "fnExactQueueDrop", fn := fun _ => fun
  | [d1, d2, d3] => { results := [.lit (.bool true)], args := [d1, d2, d3] }
  | _ => none }
def fnExactQueueDropRow : OpenClaim := { program := "ytinenkjfdmajkaa", sum := "afa5cf8bd6081ccdeac03698b15e9b0e10697d8d9325edf3234e33e392741455", func := "loop.example/g00705/laws.FnExactQueueDrop", spec := "fnExactQueueDrop", inPlace := ["internal/bytealg.IndexByteString"], unfollowed := true, recurses := true, apart := false }
def FnExactQueueDropSaid : Prop := fnExactQueueDropRow.holds Try.pinned (OpenSpec.ofChange fnExactQueueDropSpec)

/-- ITS FALSE NEIGHBOUR: 'it returns false'. Refute it at one input. -/
def fnExactQueueDropWrong : ChangeSpec := { name := "fnExactQueueDrop", fn := fun _ => fun
  | [d1, d2, d3] => { results := [.lit (.bool false)], args := [d1, d2, d3] }
  | _ => none }
def FnExactQueueDropWrongFalsely : Prop := fnExactQueueDropRow.holds Try.pinned (OpenSpec.ofChange fnExactQueueDropWrong)

/-- 'laws.FnQuiet': WHATEVER THE INPUT: true; the input reads as it did. -/
def fnQuietSpec : ChangeSpec := { name := "fnQuiet", fn := fun _ => fun
  | [d] => { results := [.lit (.bool true)], args := [d] }
  | _ => none }
def fnQuietRow : OpenClaim := { program := "ytinenkjfdmajkaa", sum := "afa5cf8bd6081ccdeac03698b15e9b0e10697d8d9325edf3234e33e392741455", func := "loop.example/g00705/laws.FnQuiet", spec := "fnQuiet", inPlace := ["internal/bytealg.IndexByteString", "internal/bytealg.abigen_runtime_cmpstring"], unfollowed := true, recurses := true, apart := false }
def FnQuietSaid : Prop := fnQuietRow.holds Try.pinned (OpenSpec.ofChange fnQuietSpec)

/-- ITS FALSE NEIGHBOUR: 'it returns false'. Refute it at one input. -/
def fnQuietWrong : ChangeSpec := { name := "fnQuiet", fn := fun _ => fun
  | [d] => { results := [.lit (.bool false)], args := [d] }
  | _ => none }
def FnQuietWrongFalsely : Prop := fnQuietRow.holds Try.pinned (OpenSpec.ofChange fnQuietWrong)

/-- 'laws.FnExactDropUser': WHATEVER THE INPUT: true; the input reads as it did. -/
def fnExactDropUserSpec : ChangeSpec := { name := "fnExactDropUser", fn := fun _ => fun
  | [d1, d2] => { results := [.lit (.bool true)], args := [d1, d2] }
  | _ => none }
def fnExactDropUserRow : OpenClaim := { program := "ytinenkjfdmajkaa", sum := "afa5cf8bd6081ccdeac03698b15e9b0e10697d8d9325edf3234e33e392741455", func := "loop.example/g00705/laws.FnExactDropUser", spec := "fnExactDropUser", inPlace := ["internal/bytealg.IndexByteString", "internal/bytealg.abigen_runtime_cmpstring"], unfollowed := true, recurses := true, apart := false }
def FnExactDropUserSaid : Prop := fnExactDropUserRow.holds Try.pinned (OpenSpec.ofChange fnExactDropUserSpec)

/-- ITS FALSE NEIGHBOUR: 'it returns false'. Refute it at one input. -/
def fnExactDropUserWrong : ChangeSpec := { name := "fnExactDropUser", fn := fun _ => fun
  | [d1, d2] => { results := [.lit (.bool false)], args := [d1, d2] }
  | _ => none }
def FnExactDropUserWrongFalsely : Prop := fnExactDropUserRow.holds Try.pinned (OpenSpec.ofChange fnExactDropUserWrong)

/-- 'laws.FnExactQueueQuiet': WHATEVER THE INPUT: true; the input reads as it did. -/
def fnExactQueueQuietSpec : ChangeSpec := { name := "fnExactQueueQuiet", fn := fun _ => fun
  | [d1, d2] => { results := [.lit (.bool true)], args := [d1, d2] }
  | _ => none }
def fnExactQueueQuietRow : OpenClaim := { program := "ytinenkjfdmajkaa", sum := "afa5cf8bd6081ccdeac03698b15e9b0e10697d8d9325edf3234e33e392741455", func := "loop.example/g00705/laws.FnExactQueueQuiet", spec := "fnExactQueueQuiet", inPlace := ["internal/bytealg.IndexByteString", "internal/bytealg.abigen_runtime_cmpstring"], unfollowed := true, recurses := true, apart := false }
def FnExactQueueQuietSaid : Prop := fnExactQueueQuietRow.holds Try.pinned (OpenSpec.ofChange fnExactQueueQuietSpec)

/-- ITS FALSE NEIGHBOUR: 'it returns false'. Refute it at one input. -/
def fnExactQueueQuietWrong : ChangeSpec := { name := "fnExactQueueQuiet", fn := fun _ => fun
  | [d1, d2] => { results := [.lit (.bool false)], args := [d1, d2] }
  | _ => none }
def FnExactQueueQuietWrongFalsely : Prop := fnExactQueueQuietRow.holds Try.pinned (OpenSpec.ofChange fnExactQueueQuietWrong)

/- THE SECOND FORM. 'bulk': how many values and letters a reading holds, each counted each time it is reached (what is shared counts as often as it is met; a slice's spare places count too). A statement '..UptoSaid' is the law's where the arguments, and the package variables that the reading takes, are together of bulk at most 1048576: NARROWER than '..Said'. Prove '..Said' where nothing that the law and all that it calls make is longer than what came in: it says more and counts as full. Else prove '..UptoSaid'. A law counts once. -/
mutual
def uptoBulk {H : Type} : DataW H → Nat
  | .lit (.string bytes) => bytes.length + 1
  | .lit _ => 1
  | .nil => 1
  | .ptr d => uptoBulk d + 1
  | .slice elems spare => uptoBulkAll elems + uptoBulkAll spare + 1
  | .agg parts => uptoBulkAll parts + 1
  | .iface _ d => uptoBulk d + 1
  | .map entries => uptoBulkEntries entries + 1
  | .held _ => 1
def uptoBulkAll {H : Type} : List (DataW H) → Nat
  | [] => 0
  | d :: r => uptoBulk d + uptoBulkAll r
def uptoBulkEntries {H : Type} : List (Lit × DataW H) → Nat
  | [] => 0
  | x :: r => uptoBulkEntry x + uptoBulkEntries r
def uptoBulkEntry {H : Type} : Lit × DataW H → Nat
  | (.string bytes, d) => bytes.length + uptoBulk d + 1
  | (_, d) => uptoBulk d + 1
 end
def uptoSmall : (H : Type) → List (DataW H) → Bool := fun _ ds => decide (uptoBulkAll ds ≤ 1048576)
def OpenSpec.upto (s : _root_.Go.ChangeSpec) : _root_.Go.OpenSpec := { _root_.Go.OpenSpec.ofChange s with cond := some uptoSmall }

/-- 'laws.FnExactDeviceOk', WHERE WHAT IT READS IS OF BULK AT MOST 1048576: true; the input reads as it did. -/
def fnExactDeviceOkUptoRow : OpenClaim := { program := "ytinenkjfdmajkaa", sum := "afa5cf8bd6081ccdeac03698b15e9b0e10697d8d9325edf3234e33e392741455", func := "loop.example/g00705/laws.FnExactDeviceOk", spec := "fnExactDeviceOk", apart := false, narrowed := true }
def FnExactDeviceOkUptoSaid : Prop := fnExactDeviceOkUptoRow.holds Try.pinned (OpenSpec.upto fnExactDeviceOkSpec)

/-- 'laws.FnExactRoleOk', WHERE WHAT IT READS IS OF BULK AT MOST 1048576: true; the input reads as it did. -/
def fnExactRoleOkUptoRow : OpenClaim := { program := "ytinenkjfdmajkaa", sum := "afa5cf8bd6081ccdeac03698b15e9b0e10697d8d9325edf3234e33e392741455", func := "loop.example/g00705/laws.FnExactRoleOk", spec := "fnExactRoleOk", inPlace := ["internal/bytealg.IndexByteString"], apart := false, narrowed := true }
def FnExactRoleOkUptoSaid : Prop := fnExactRoleOkUptoRow.holds Try.pinned (OpenSpec.upto fnExactRoleOkSpec)

/-- 'laws.FnExactFarOk', WHERE WHAT IT READS IS OF BULK AT MOST 1048576: true; the input reads as it did. -/
def fnExactFarOkUptoRow : OpenClaim := { program := "ytinenkjfdmajkaa", sum := "afa5cf8bd6081ccdeac03698b15e9b0e10697d8d9325edf3234e33e392741455", func := "loop.example/g00705/laws.FnExactFarOk", spec := "fnExactFarOk", inPlace := ["internal/bytealg.IndexByteString"], apart := false, narrowed := true }
def FnExactFarOkUptoSaid : Prop := fnExactFarOkUptoRow.holds Try.pinned (OpenSpec.upto fnExactFarOkSpec)

/-- 'laws.FnExactQueueOk', WHERE WHAT IT READS IS OF BULK AT MOST 1048576: true; the input reads as it did. -/
def fnExactQueueOkUptoRow : OpenClaim := { program := "ytinenkjfdmajkaa", sum := "afa5cf8bd6081ccdeac03698b15e9b0e10697d8d9325edf3234e33e392741455", func := "loop.example/g00705/laws.FnExactQueueOk", spec := "fnExactQueueOk", inPlace := ["internal/bytealg.IndexByteString"], unfollowed := true, recurses := true, apart := false, narrowed := true }
def FnExactQueueOkUptoSaid : Prop := fnExactQueueOkUptoRow.holds Try.pinned (OpenSpec.upto fnExactQueueOkSpec)

/-- 'laws.FnExactHasUser', WHERE WHAT IT READS IS OF BULK AT MOST 1048576: true; the input reads as it did. -/
def fnExactHasUserUptoRow : OpenClaim := { program := "ytinenkjfdmajkaa", sum := "afa5cf8bd6081ccdeac03698b15e9b0e10697d8d9325edf3234e33e392741455", func := "loop.example/g00705/laws.FnExactHasUser", spec := "fnExactHasUser", inPlace := ["internal/bytealg.IndexByteString"], apart := false, narrowed := true }
def FnExactHasUserUptoSaid : Prop := fnExactHasUserUptoRow.holds Try.pinned (OpenSpec.upto fnExactHasUserSpec)

/-- 'laws.FnExactQueueDrop', WHERE WHAT IT READS IS OF BULK AT MOST 1048576: true; the input reads as it did. -/
def fnExactQueueDropUptoRow : OpenClaim := { program := "ytinenkjfdmajkaa", sum := "afa5cf8bd6081ccdeac03698b15e9b0e10697d8d9325edf3234e33e392741455", func := "loop.example/g00705/laws.FnExactQueueDrop", spec := "fnExactQueueDrop", inPlace := ["internal/bytealg.IndexByteString"], unfollowed := true, recurses := true, apart := false, narrowed := true }
def FnExactQueueDropUptoSaid : Prop := fnExactQueueDropUptoRow.holds Try.pinned (OpenSpec.upto fnExactQueueDropSpec)

/-- 'laws.FnQuiet', WHERE WHAT IT READS IS OF BULK AT MOST 1048576: true; the input reads as it did. -/
def fnQuietUptoRow : OpenClaim := { program := "ytinenkjfdmajkaa", sum := "afa5cf8bd6081ccdeac03698b15e9b0e10697d8d9325edf3234e33e392741455", func := "loop.example/g00705/laws.FnQuiet", spec := "fnQuiet", inPlace := ["internal/bytealg.IndexByteString", "internal/bytealg.abigen_runtime_cmpstring"], unfollowed := true, recurses := true, apart := false, narrowed := true }
def FnQuietUptoSaid : Prop := fnQuietUptoRow.holds Try.pinned (OpenSpec.upto fnQuietSpec)

/-- 'laws.FnExactDropUser', WHERE WHAT IT READS IS OF BULK AT MOST 1048576: true; the input reads as it did. -/
def fnExactDropUserUptoRow : OpenClaim := { program := "ytinenkjfdmajkaa", sum := "afa5cf8bd6081ccdeac03698b15e9b0e10697d8d9325edf3234e33e392741455", func := "loop.example/g00705/laws.FnExactDropUser", spec := "fnExactDropUser", inPlace := ["internal/bytealg.IndexByteString", "internal/bytealg.abigen_runtime_cmpstring"], unfollowed := true, recurses := true, apart := false, narrowed := true }
def FnExactDropUserUptoSaid : Prop := fnExactDropUserUptoRow.holds Try.pinned (OpenSpec.upto fnExactDropUserSpec)

/-- 'laws.FnExactQueueQuiet', WHERE WHAT IT READS IS OF BULK AT MOST 1048576: true; the input reads as it did. -/
def fnExactQueueQuietUptoRow : OpenClaim := { program := "ytinenkjfdmajkaa", sum := "afa5cf8bd6081ccdeac03698b15e9b0e10697d8d9325edf3234e33e392741455", func := "loop.example/g00705/laws.FnExactQueueQuiet", spec := "fnExactQueueQuiet", inPlace := ["internal/bytealg.IndexByteString", "internal/bytealg.abigen_runtime_cmpstring"], unfollowed := true, recurses := true, apart := false, narrowed := true }
def FnExactQueueQuietUptoSaid : Prop := fnExactQueueQuietUptoRow.holds Try.pinned (OpenSpec.upto fnExactQueueQuietSpec)

end Rows
end Go.Proofs.Ytinenkjfdmajkaa

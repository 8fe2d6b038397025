/-
  No cell of these rows narrows 'for every input' (looked for: loops, veiled, ifaces, maps, wideKeys, modest, calm, conditions, laid).
  DERIVED. THE GIVEN ROWS OF THIS SEAT. 8 by the template 'for every input the law returns true; each argument reads behind the call as it read before'; 0 by the template 'total and deterministic' (their statements: YtpbbohinhbboaaaTotals.lean).
  GIVEN WITH THE SEED: the statements are not yours to turn. If you find one false, say at which input.
  Laid BY PROGRAM, IN A SANDBOX (cutbox-rows.mjs): the forced cells as the released guide's own fill.sh prints them over the translation 30a1e8d6dcbb50b9… (all of the seat's roots in one cut). By AI agents, Wed Nov 11 2026. No macro, syntax, notation, axiom, sorry.
-/
import Derived.Test.YtpbbohinhbboaaaChecked
import GoSem.Claim
import GoSem.ClaimJoined
import GoSem.ClaimMapViews
import Derived.JoinedTies
import Derived.KernelRfl
namespace Go.Proofs.Ytpbbohinhbboaaa
/- THE CELL 'sum', in the pinned program and in every row, IS THE sha256 OF THE DUMP (.gsa) THAT YtpbbohinhbboaaaProg.lean LOADS. Nothing in Lean hashes anything: it is a label: what it is worth is what the hold of that sum in a sandbox is worth. -/
noncomputable def Try.pinned : Pinned := { name := "ytpbbohinhbboaaa", sum := "30a1e8d6dcbb50b9acd73abcc0c1d76c8e2396441aca537facfb9c1124f988c7", checked := Try.checked }
namespace Rows
def none {H : Type} : Left H := { results := [], args := [] }

/-- 'seneschallaw.Names': WHATEVER THE INPUT: true; the input reads as it did. -/
def namesSpec : ChangeSpec := { name := "names", fn := fun _ => fun
  | [] => { results := [.lit (.bool true)], args := [] }
  | _ => none }
def namesRow : OpenClaim := { program := "ytpbbohinhbboaaa", sum := "30a1e8d6dcbb50b9acd73abcc0c1d76c8e2396441aca537facfb9c1124f988c7", func := "seneschal/seneschallaw.Names", spec := "names", apart := false }
def NamesSaid : Prop := namesRow.holds Try.pinned (OpenSpec.ofChange namesSpec)

/-- ITS FALSE NEIGHBOUR: 'it returns false'. Refute it at one input. -/
def namesWrong : ChangeSpec := { name := "names", fn := fun _ => fun
  | [] => { results := [.lit (.bool false)], args := [] }
  | _ => none }
def NamesWrongFalsely : Prop := namesRow.holds Try.pinned (OpenSpec.ofChange namesWrong)

/-- 'seneschallaw.FlowSays': WHATEVER THE INPUT: true; the input reads as it did. -/
def flowSaysSpec : ChangeSpec := { name := "flowSays", fn := fun _ => fun
  | [d1, d2] => { results := [.lit (.bool true)], args := [d1, d2] }
  | _ => none }
def flowSaysRow : OpenClaim := { program := "ytpbbohinhbboaaa", sum := "30a1e8d6dcbb50b9acd73abcc0c1d76c8e2396441aca537facfb9c1124f988c7", func := "seneschal/seneschallaw.FlowSays", spec := "flowSays", unfollowed := true, recurses := true, apart := false }
def FlowSaysSaid : Prop := flowSaysRow.holds Try.pinned (OpenSpec.ofChange flowSaysSpec)

/-- ITS FALSE NEIGHBOUR: 'it returns false'. Refute it at one input. -/
def flowSaysWrong : ChangeSpec := { name := "flowSays", fn := fun _ => fun
  | [d1, d2] => { results := [.lit (.bool false)], args := [d1, d2] }
  | _ => none }
def FlowSaysWrongFalsely : Prop := flowSaysRow.holds Try.pinned (OpenSpec.ofChange flowSaysWrong)

/-- 'seneschallaw.FlowHands': WHATEVER THE INPUT: true; the input reads as it did. -/
def flowHandsSpec : ChangeSpec := { name := "flowHands", fn := fun _ => fun
  | [d1, d2, d3] => { results := [.lit (.bool true)], args := [d1, d2, d3] }
  | _ => none }
def flowHandsRow : OpenClaim := { program := "ytpbbohinhbboaaa", sum := "30a1e8d6dcbb50b9acd73abcc0c1d76c8e2396441aca537facfb9c1124f988c7", func := "seneschal/seneschallaw.FlowHands", spec := "flowHands", inPlace := ["slices.overlaps[int]"], apart := false }
def FlowHandsSaid : Prop := flowHandsRow.holds Try.pinned (OpenSpec.ofChange flowHandsSpec)

/-- ITS FALSE NEIGHBOUR: 'it returns false'. Refute it at one input. -/
def flowHandsWrong : ChangeSpec := { name := "flowHands", fn := fun _ => fun
  | [d1, d2, d3] => { results := [.lit (.bool false)], args := [d1, d2, d3] }
  | _ => none }
def FlowHandsWrongFalsely : Prop := flowHandsRow.holds Try.pinned (OpenSpec.ofChange flowHandsWrong)

/-- 'seneschallaw.FinalSays': WHATEVER THE INPUT: true; the input reads as it did. -/
def finalSaysSpec : ChangeSpec := { name := "finalSays", fn := fun _ => fun
  | [d1, d2] => { results := [.lit (.bool true)], args := [d1, d2] }
  | _ => none }
def finalSaysRow : OpenClaim := { program := "ytpbbohinhbboaaa", sum := "30a1e8d6dcbb50b9acd73abcc0c1d76c8e2396441aca537facfb9c1124f988c7", func := "seneschal/seneschallaw.FinalSays", spec := "finalSays", inPlace := ["internal/bytealg.IndexByteString", "internal/bytealg.IndexString"], unfollowed := true, recurses := true, named := ["internal/bytealg.MaxLen"], apart := false }
def FinalSaysSaid : Prop := finalSaysRow.holds Try.pinned (OpenSpec.ofChange finalSaysSpec)

/-- ITS FALSE NEIGHBOUR: 'it returns false'. Refute it at one input. -/
def finalSaysWrong : ChangeSpec := { name := "finalSays", fn := fun _ => fun
  | [d1, d2] => { results := [.lit (.bool false)], args := [d1, d2] }
  | _ => none }
def FinalSaysWrongFalsely : Prop := finalSaysRow.holds Try.pinned (OpenSpec.ofChange finalSaysWrong)

/-- 'seneschallaw.GrantsChecks': WHATEVER THE INPUT: true; the input reads as it did. -/
def grantsChecksSpec : ChangeSpec := { name := "grantsChecks", fn := fun _ => fun
  | [d1, d2] => { results := [.lit (.bool true)], args := [d1, d2] }
  | _ => none }
def grantsChecksRow : OpenClaim := { program := "ytpbbohinhbboaaa", sum := "30a1e8d6dcbb50b9acd73abcc0c1d76c8e2396441aca537facfb9c1124f988c7", func := "seneschal/seneschallaw.GrantsChecks", spec := "grantsChecks", inPlace := ["internal/bytealg.IndexByteString", "internal/bytealg.IndexString"], unfollowed := true, recurses := true, named := ["internal/bytealg.MaxLen"], apart := false }
def GrantsChecksSaid : Prop := grantsChecksRow.holds Try.pinned (OpenSpec.ofChange grantsChecksSpec)

/-- ITS FALSE NEIGHBOUR: 'it returns false'. Refute it at one input. -/
def grantsChecksWrong : ChangeSpec := { name := "grantsChecks", fn := fun _ => fun
  | [d1, d2] => { results := [.lit (.bool false)], args := [d1, d2] }
  | _ => none }
def GrantsChecksWrongFalsely : Prop := grantsChecksRow.holds Try.pinned (OpenSpec.ofChange grantsChecksWrong)

/-- 'seneschallaw.SealSays': WHATEVER THE INPUT: true; the input reads as it did. -/
def sealSaysSpec : ChangeSpec := { name := "sealSays", fn := fun _ => fun
  | [d1, d2] => { results := [.lit (.bool true)], args := [d1, d2] }
  | _ => none }
def sealSaysRow : OpenClaim := { program := "ytpbbohinhbboaaa", sum := "30a1e8d6dcbb50b9acd73abcc0c1d76c8e2396441aca537facfb9c1124f988c7", func := "seneschal/seneschallaw.SealSays", spec := "sealSays", inPlace := ["internal/bytealg.IndexByteString", "internal/abi.NoEscape", "internal/bytealg.MakeNoZero"], apart := false }
def SealSaysSaid : Prop := sealSaysRow.holds Try.pinned (OpenSpec.ofChange sealSaysSpec)

/-- ITS FALSE NEIGHBOUR: 'it returns false'. Refute it at one input. -/
def sealSaysWrong : ChangeSpec := { name := "sealSays", fn := fun _ => fun
  | [d1, d2] => { results := [.lit (.bool false)], args := [d1, d2] }
  | _ => none }
def SealSaysWrongFalsely : Prop := sealSaysRow.holds Try.pinned (OpenSpec.ofChange sealSaysWrong)

/-- 'seneschallaw.GrantsSays': WHATEVER THE INPUT: true; the input reads as it did. -/
def grantsSaysSpec : ChangeSpec := { name := "grantsSays", fn := fun _ => fun
  | [d1, d2, d3, d4] => { results := [.lit (.bool true)], args := [d1, d2, d3, d4] }
  | _ => none }
def grantsSaysRow : OpenClaim := { program := "ytpbbohinhbboaaa", sum := "30a1e8d6dcbb50b9acd73abcc0c1d76c8e2396441aca537facfb9c1124f988c7", func := "seneschal/seneschallaw.GrantsSays", spec := "grantsSays", inPlace := ["internal/bytealg.IndexByteString", "internal/bytealg.IndexString"], unfollowed := true, recurses := true, named := ["internal/bytealg.MaxLen"], apart := false }
def GrantsSaysSaid : Prop := grantsSaysRow.holds Try.pinned (OpenSpec.ofChange grantsSaysSpec)

/-- ITS FALSE NEIGHBOUR: 'it returns false'. Refute it at one input. -/
def grantsSaysWrong : ChangeSpec := { name := "grantsSays", fn := fun _ => fun
  | [d1, d2, d3, d4] => { results := [.lit (.bool false)], args := [d1, d2, d3, d4] }
  | _ => none }
def GrantsSaysWrongFalsely : Prop := grantsSaysRow.holds Try.pinned (OpenSpec.ofChange grantsSaysWrong)

/-- 'seneschallaw.AuditProofs': WHATEVER THE INPUT: true; the input reads as it did. -/
def auditProofsSpec : ChangeSpec := { name := "auditProofs", fn := fun _ => fun
  | [d1, d2, d3, d4, d5, d6] => { results := [.lit (.bool true)], args := [d1, d2, d3, d4, d5, d6] }
  | _ => none }
def auditProofsRow : OpenClaim := { program := "ytpbbohinhbboaaa", sum := "30a1e8d6dcbb50b9acd73abcc0c1d76c8e2396441aca537facfb9c1124f988c7", func := "seneschal/seneschallaw.AuditProofs", spec := "auditProofs", inPlace := ["internal/abi.NoEscape", "internal/bytealg.MakeNoZero", "internal/bytealg.IndexByteString"], recurses := true, apart := false }
def AuditProofsSaid : Prop := auditProofsRow.holds Try.pinned (OpenSpec.ofChange auditProofsSpec)

/-- ITS FALSE NEIGHBOUR: 'it returns false'. Refute it at one input. -/
def auditProofsWrong : ChangeSpec := { name := "auditProofs", fn := fun _ => fun
  | [d1, d2, d3, d4, d5, d6] => { results := [.lit (.bool false)], args := [d1, d2, d3, d4, d5, d6] }
  | _ => none }
def AuditProofsWrongFalsely : Prop := auditProofsRow.holds Try.pinned (OpenSpec.ofChange auditProofsWrong)

/- THE SECOND FORM. 'bulk': how many values and letters a reading holds, each counted each time it is reached (what is shared counts as often as it is met; a slice's spare places count too). A statement '..UptoSaid' is the law's where the arguments, and the package variables that the reading takes, are together of bulk at most 1048576: NARROWER than '..Said'. Prove '..Said' where nothing that the law and all that it calls make is longer than what came in: it says more and counts as full. Else prove '..UptoSaid'. A law counts once. -/
mutual
def uptoBulk {H : Type} : DataW H → Nat
  | .lit (.string bytes) => bytes.length + 1
  | .lit _ => 1
  | .nil => 1
  | .ptr d => uptoBulk d + 1
  | .slice elems spare => uptoBulkAll elems + uptoBulkAll spare + 1
  | .agg parts => uptoBulkAll parts + 1
  | .iface _ d => uptoBulk d + 1
  | .map entries => uptoBulkEntries entries + 1
  | .held _ => 1
def uptoBulkAll {H : Type} : List (DataW H) → Nat
  | [] => 0
  | d :: r => uptoBulk d + uptoBulkAll r
def uptoBulkEntries {H : Type} : List (Lit × DataW H) → Nat
  | [] => 0
  | x :: r => uptoBulkEntry x + uptoBulkEntries r
def uptoBulkEntry {H : Type} : Lit × DataW H → Nat
  | (.string bytes, d) => bytes.length + uptoBulk d + 1
  | (_, d) => uptoBulk d + 1
 end
def uptoSmall : (H : Type) → List (DataW H) → Bool := fun _ ds => decide (uptoBulkAll ds ≤ 1048576)
def OpenSpec.upto (s : _root_.Go.ChangeSpec) : _root_.Go.OpenSpec := { _root_.Go.OpenSpec.ofChange s with cond := some uptoSmall }

/-- 'seneschallaw.Names', WHERE WHAT IT READS IS OF BULK AT MOST 1048576: true; the input reads as it did. -/
def namesUptoRow : OpenClaim := { program := "ytpbbohinhbboaaa", sum := "30a1e8d6dcbb50b9acd73abcc0c1d76c8e2396441aca537facfb9c1124f988c7", func := "seneschal/seneschallaw.Names", spec := "names", apart := false, narrowed := true }
def NamesUptoSaid : Prop := namesUptoRow.holds Try.pinned (OpenSpec.upto namesSpec)

/-- 'seneschallaw.FlowSays', WHERE WHAT IT READS IS OF BULK AT MOST 1048576: true; the input reads as it did. -/
def flowSaysUptoRow : OpenClaim := { program := "ytpbbohinhbboaaa", sum := "30a1e8d6dcbb50b9acd73abcc0c1d76c8e2396441aca537facfb9c1124f988c7", func := "seneschal/seneschallaw.FlowSays", spec := "flowSays", unfollowed := true, recurses := true, apart := false, narrowed := true }
def FlowSaysUptoSaid : Prop := flowSaysUptoRow.holds Try.pinned (OpenSpec.upto flowSaysSpec)

/-- 'seneschallaw.FlowHands', WHERE WHAT IT READS IS OF BULK AT MOST 1048576: true; the input reads as it did. -/
def flowHandsUptoRow : OpenClaim := { program := "ytpbbohinhbboaaa", sum := "30a1e8d6dcbb50b9acd73abcc0c1d76c8e2396441aca537facfb9c1124f988c7", func := "seneschal/seneschallaw.FlowHands", spec := "flowHands", inPlace := ["slices.overlaps[int]"], apart := false, narrowed := true }
def FlowHandsUptoSaid : Prop := flowHandsUptoRow.holds Try.pinned (OpenSpec.upto flowHandsSpec)

/-- 'seneschallaw.FinalSays', WHERE WHAT IT READS IS OF BULK AT MOST 1048576: true; the input reads as it did. -/
def finalSaysUptoRow : OpenClaim := { program := "ytpbbohinhbboaaa", sum := "30a1e8d6dcbb50b9acd73abcc0c1d76c8e2396441aca537facfb9c1124f988c7", func := "seneschal/seneschallaw.FinalSays", spec := "finalSays", inPlace := ["internal/bytealg.IndexByteString", "internal/bytealg.IndexString"], unfollowed := true, recurses := true, named := ["internal/bytealg.MaxLen"], apart := false, narrowed := true }
def FinalSaysUptoSaid : Prop := finalSaysUptoRow.holds Try.pinned (OpenSpec.upto finalSaysSpec)

/-- 'seneschallaw.GrantsChecks', WHERE WHAT IT READS IS OF BULK AT MOST 1048576: true; the input reads as it did. -/
def grantsChecksUptoRow : OpenClaim := { program := "ytpbbohinhbboaaa", sum := "30a1e8d6dcbb50b9acd73abcc0c1d76c8e2396441aca537facfb9c1124f988c7", func := "seneschal/seneschallaw.GrantsChecks", spec := "grantsChecks", inPlace := ["internal/bytealg.IndexByteString", "internal/bytealg.IndexString"], unfollowed := true, recurses := true, named := ["internal/bytealg.MaxLen"], apart := false, narrowed := true }
def GrantsChecksUptoSaid : Prop := grantsChecksUptoRow.holds Try.pinned (OpenSpec.upto grantsChecksSpec)

/-- 'seneschallaw.SealSays', WHERE WHAT IT READS IS OF BULK AT MOST 1048576: true; the input reads as it did. -/
def sealSaysUptoRow : OpenClaim := { program := "ytpbbohinhbboaaa", sum := "30a1e8d6dcbb50b9acd73abcc0c1d76c8e2396441aca537facfb9c1124f988c7", func := "seneschal/seneschallaw.SealSays", spec := "sealSays", inPlace := ["internal/bytealg.IndexByteString", "internal/abi.NoEscape", "internal/bytealg.MakeNoZero"], apart := false, narrowed := true }
def SealSaysUptoSaid : Prop := sealSaysUptoRow.holds Try.pinned (OpenSpec.upto sealSaysSpec)

/-- 'seneschallaw.GrantsSays', WHERE WHAT IT READS IS OF BULK AT MOST 1048576: true; the input reads as it did. -/
def grantsSaysUptoRow : OpenClaim := { program := "ytpbbohinhbboaaa", sum := "30a1e8d6dcbb50b9acd73abcc0c1d76c8e2396441aca537facfb9c1124f988c7", func := "seneschal/seneschallaw.GrantsSays", spec := "grantsSays", inPlace := ["internal/bytealg.IndexByteString", "internal/bytealg.IndexString"], unfollowed := true, recurses := true, named := ["internal/bytealg.MaxLen"], apart := false, narrowed := true }
def GrantsSaysUptoSaid : Prop := grantsSaysUptoRow.holds Try.pinned (OpenSpec.upto grantsSaysSpec)

/-- 'seneschallaw.AuditProofs', WHERE WHAT IT READS IS OF BULK AT MOST 1048576: true; the input reads as it did. -/
def auditProofsUptoRow : OpenClaim := { program := "ytpbbohinhbboaaa", sum := "30a1e8d6dcbb50b9acd73abcc0c1d76c8e2396441aca537facfb9c1124f988c7", func := "seneschal/seneschallaw.AuditProofs", spec := "auditProofs", inPlace := ["internal/abi.NoEscape", "internal/bytealg.MakeNoZero", "internal/bytealg.IndexByteString"], recurses := true, apart := false, narrowed := true }
def AuditProofsUptoSaid : Prop := auditProofsUptoRow.holds Try.pinned (OpenSpec.upto auditProofsSpec)

end Rows
end Go.Proofs.Ytpbbohinhbboaaa

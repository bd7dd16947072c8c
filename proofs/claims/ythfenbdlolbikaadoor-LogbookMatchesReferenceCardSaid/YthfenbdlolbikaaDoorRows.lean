/-
  NARROWER THAN 'FOR EVERY INPUT', by the rows' own cells (each row's printed sentence says how): LogbookMatchesReference: laid · LogbookStays: laid · LogbookFinds: laid · LogbookProved: laid · LogbookSigned: laid · LogbookDecodes: laid.
  DERIVED. THE GIVEN ROWS OF THIS SEAT. 6 by the template 'for every input the law returns true; each argument reads behind the call as it read before'; 0 by the template 'total and deterministic' (their statements: YthfenbdlolbikaaDoorTotals.lean).
  GIVEN WITH THE SEED: the statements are not yours to turn. If you find one false, say at which input.
  Laid BY PROGRAM, IN A SANDBOX (cutbox-rows.mjs): the forced cells as the released guide's own fill.sh prints them over the translation 165e04bb3aaa17bc… (all of the seat's roots in one cut). By AI agents, Wed Nov 11 2026. No macro, syntax, notation, axiom, sorry.
-/
import Derived.Test.YthfenbdlolbikaaDoorChecked
import GoSem.Claim
import GoSem.ClaimJoined
import GoSem.ClaimMapViews
import Derived.JoinedTies
import Derived.KernelRfl
namespace Go.Proofs.YthfenbdlolbikaaDoor
/- THE CELL 'sum', in the pinned program and in every row, IS THE sha256 OF THE DUMP (.gsa) THAT YthfenbdlolbikaaDoorProg.lean LOADS. Nothing in Lean hashes anything: it is a label: what it is worth is what the hold of that sum in a sandbox is worth. -/
noncomputable def Tryd.pinned : Pinned := { name := "ythfenbdlolbikaadoor", sum := "165e04bb3aaa17bcaaa12540d08672adfb18b8bf62d6a3f8308d59d6571fde73", checked := Tryd.checked }
namespace Rows
def none {H : Type} : Left H := { results := [], args := [] }

/- WHAT THE LISTED PACKAGE-LEVEL VARIABLES READ AS WHEN THE CALL BEGINS. Each datum BY PROGRAM (the guide's laid-datum.mjs) off the statement by which the dump's own 'gosem.cut.vars' lays the variable. In a bare row this is a premise. The card (YthfenbdlolbikaaDoorCards.lean) ties it to the program's text. -/
def laid_putlog_digest_round {H : Type} : DataW H := .agg [.lit (.int .u32 1116352408), .lit (.int .u32 1899447441), .lit (.int .u32 3049323471), .lit (.int .u32 3921009573), .lit (.int .u32 961987163), .lit (.int .u32 1508970993), .lit (.int .u32 2453635748), .lit (.int .u32 2870763221), .lit (.int .u32 3624381080), .lit (.int .u32 310598401), .lit (.int .u32 607225278), .lit (.int .u32 1426881987), .lit (.int .u32 1925078388), .lit (.int .u32 2162078206), .lit (.int .u32 2614888103), .lit (.int .u32 3248222580), .lit (.int .u32 3835390401), .lit (.int .u32 4022224774), .lit (.int .u32 264347078), .lit (.int .u32 604807628), .lit (.int .u32 770255983), .lit (.int .u32 1249150122), .lit (.int .u32 1555081692), .lit (.int .u32 1996064986), .lit (.int .u32 2554220882), .lit (.int .u32 2821834349), .lit (.int .u32 2952996808), .lit (.int .u32 3210313671), .lit (.int .u32 3336571891), .lit (.int .u32 3584528711), .lit (.int .u32 113926993), .lit (.int .u32 338241895), .lit (.int .u32 666307205), .lit (.int .u32 773529912), .lit (.int .u32 1294757372), .lit (.int .u32 1396182291), .lit (.int .u32 1695183700), .lit (.int .u32 1986661051), .lit (.int .u32 2177026350), .lit (.int .u32 2456956037), .lit (.int .u32 2730485921), .lit (.int .u32 2820302411), .lit (.int .u32 3259730800), .lit (.int .u32 3345764771), .lit (.int .u32 3516065817), .lit (.int .u32 3600352804), .lit (.int .u32 4094571909), .lit (.int .u32 275423344), .lit (.int .u32 430227734), .lit (.int .u32 506948616), .lit (.int .u32 659060556), .lit (.int .u32 883997877), .lit (.int .u32 958139571), .lit (.int .u32 1322822218), .lit (.int .u32 1537002063), .lit (.int .u32 1747873779), .lit (.int .u32 1955562222), .lit (.int .u32 2024104815), .lit (.int .u32 2227730452), .lit (.int .u32 2361852424), .lit (.int .u32 2428436474), .lit (.int .u32 2756734187), .lit (.int .u32 3204031479), .lit (.int .u32 3329325298)]

/-- 'putloglaw38.LogbookMatchesReference': WHATEVER THE INPUT: true; the input reads as it did. -/
def logbookMatchesReferenceSpec : ChangeSpec := { name := "logbookMatchesReference", fn := fun _ => fun
  | [d1, d2, d3, d4, d5, d6, d7, d8, d9] => { results := [.lit (.bool true)], args := [d1, d2, d3, d4, d5, d6, d7, d8, d9] }
  | _ => none }
def logbookMatchesReferenceRow : OpenClaim := { program := "ythfenbdlolbikaadoor", sum := "165e04bb3aaa17bcaaa12540d08672adfb18b8bf62d6a3f8308d59d6571fde73", func := "putlog/putloglaw38.LogbookMatchesReference", spec := "logbookMatchesReference", inPlace := ["internal/abi.NoEscape", "internal/bytealg.MakeNoZero"], unfollowed := true, recurses := true, named := ["putlog/digest.round"], apart := false, laid := [("putlog/digest.round", laid_putlog_digest_round)] }
def LogbookMatchesReferenceSaid : Prop := logbookMatchesReferenceRow.holds Tryd.pinned (OpenSpec.ofChange logbookMatchesReferenceSpec)

/-- ITS FALSE NEIGHBOUR: 'it returns false'. Refute it at one input. -/
def logbookMatchesReferenceWrong : ChangeSpec := { name := "logbookMatchesReference", fn := fun _ => fun
  | [d1, d2, d3, d4, d5, d6, d7, d8, d9] => { results := [.lit (.bool false)], args := [d1, d2, d3, d4, d5, d6, d7, d8, d9] }
  | _ => none }
def LogbookMatchesReferenceWrongFalsely : Prop := logbookMatchesReferenceRow.holds Tryd.pinned (OpenSpec.ofChange logbookMatchesReferenceWrong)

/-- 'putloglaw38.LogbookStays': WHATEVER THE INPUT: true; the input reads as it did. -/
def logbookStaysSpec : ChangeSpec := { name := "logbookStays", fn := fun _ => fun
  | [d1, d2, d3, d4, d5, d6] => { results := [.lit (.bool true)], args := [d1, d2, d3, d4, d5, d6] }
  | _ => none }
def logbookStaysRow : OpenClaim := { program := "ythfenbdlolbikaadoor", sum := "165e04bb3aaa17bcaaa12540d08672adfb18b8bf62d6a3f8308d59d6571fde73", func := "putlog/putloglaw38.LogbookStays", spec := "logbookStays", inPlace := ["internal/abi.NoEscape", "internal/bytealg.MakeNoZero"], unfollowed := true, recurses := true, named := ["putlog/digest.round"], apart := false, laid := [("putlog/digest.round", laid_putlog_digest_round)] }
def LogbookStaysSaid : Prop := logbookStaysRow.holds Tryd.pinned (OpenSpec.ofChange logbookStaysSpec)

/-- ITS FALSE NEIGHBOUR: 'it returns false'. Refute it at one input. -/
def logbookStaysWrong : ChangeSpec := { name := "logbookStays", fn := fun _ => fun
  | [d1, d2, d3, d4, d5, d6] => { results := [.lit (.bool false)], args := [d1, d2, d3, d4, d5, d6] }
  | _ => none }
def LogbookStaysWrongFalsely : Prop := logbookStaysRow.holds Tryd.pinned (OpenSpec.ofChange logbookStaysWrong)

/-- 'putloglaw38.LogbookFinds': WHATEVER THE INPUT: true; the input reads as it did. -/
def logbookFindsSpec : ChangeSpec := { name := "logbookFinds", fn := fun _ => fun
  | [d1, d2, d3, d4] => { results := [.lit (.bool true)], args := [d1, d2, d3, d4] }
  | _ => none }
def logbookFindsRow : OpenClaim := { program := "ythfenbdlolbikaadoor", sum := "165e04bb3aaa17bcaaa12540d08672adfb18b8bf62d6a3f8308d59d6571fde73", func := "putlog/putloglaw38.LogbookFinds", spec := "logbookFinds", inPlace := ["internal/abi.NoEscape", "internal/bytealg.MakeNoZero"], unfollowed := true, recurses := true, named := ["putlog/digest.round"], apart := false, laid := [("putlog/digest.round", laid_putlog_digest_round)] }
def LogbookFindsSaid : Prop := logbookFindsRow.holds Tryd.pinned (OpenSpec.ofChange logbookFindsSpec)

/-- ITS FALSE NEIGHBOUR: 'it returns false'. Refute it at one input. -/
def logbookFindsWrong : ChangeSpec := { name := "logbookFinds", fn := fun _ => fun
  | [d1, d2, d3, d4] => { results := [.lit (.bool false)], args := [d1, d2, d3, d4] }
  | _ => none }
def LogbookFindsWrongFalsely : Prop := logbookFindsRow.holds Tryd.pinned (OpenSpec.ofChange logbookFindsWrong)

/-- 'putloglaw38.LogbookProved': WHATEVER THE INPUT: true; the input reads as it did. -/
def logbookProvedSpec : ChangeSpec := { name := "logbookProved", fn := fun _ => fun
  | [d1, d2, d3, d4, d5, d6] => { results := [.lit (.bool true)], args := [d1, d2, d3, d4, d5, d6] }
  | _ => none }
def logbookProvedRow : OpenClaim := { program := "ythfenbdlolbikaadoor", sum := "165e04bb3aaa17bcaaa12540d08672adfb18b8bf62d6a3f8308d59d6571fde73", func := "putlog/putloglaw38.LogbookProved", spec := "logbookProved", inPlace := ["internal/abi.NoEscape", "internal/bytealg.MakeNoZero"], unfollowed := true, recurses := true, named := ["putlog/digest.round"], apart := false, laid := [("putlog/digest.round", laid_putlog_digest_round)] }
def LogbookProvedSaid : Prop := logbookProvedRow.holds Tryd.pinned (OpenSpec.ofChange logbookProvedSpec)

/-- ITS FALSE NEIGHBOUR: 'it returns false'. Refute it at one input. -/
def logbookProvedWrong : ChangeSpec := { name := "logbookProved", fn := fun _ => fun
  | [d1, d2, d3, d4, d5, d6] => { results := [.lit (.bool false)], args := [d1, d2, d3, d4, d5, d6] }
  | _ => none }
def LogbookProvedWrongFalsely : Prop := logbookProvedRow.holds Tryd.pinned (OpenSpec.ofChange logbookProvedWrong)

/-- 'putloglaw38.LogbookSigned': WHATEVER THE INPUT: true; the input reads as it did. -/
def logbookSignedSpec : ChangeSpec := { name := "logbookSigned", fn := fun _ => fun
  | [d1, d2, d3, d4, d5, d6, d7] => { results := [.lit (.bool true)], args := [d1, d2, d3, d4, d5, d6, d7] }
  | _ => none }
def logbookSignedRow : OpenClaim := { program := "ythfenbdlolbikaadoor", sum := "165e04bb3aaa17bcaaa12540d08672adfb18b8bf62d6a3f8308d59d6571fde73", func := "putlog/putloglaw38.LogbookSigned", spec := "logbookSigned", inPlace := ["internal/abi.NoEscape", "internal/bytealg.MakeNoZero"], unfollowed := true, recurses := true, named := ["putlog/digest.round"], apart := false, laid := [("putlog/digest.round", laid_putlog_digest_round)] }
def LogbookSignedSaid : Prop := logbookSignedRow.holds Tryd.pinned (OpenSpec.ofChange logbookSignedSpec)

/-- ITS FALSE NEIGHBOUR: 'it returns false'. Refute it at one input. -/
def logbookSignedWrong : ChangeSpec := { name := "logbookSigned", fn := fun _ => fun
  | [d1, d2, d3, d4, d5, d6, d7] => { results := [.lit (.bool false)], args := [d1, d2, d3, d4, d5, d6, d7] }
  | _ => none }
def LogbookSignedWrongFalsely : Prop := logbookSignedRow.holds Tryd.pinned (OpenSpec.ofChange logbookSignedWrong)

/-- 'putloglaw38.LogbookDecodes': WHATEVER THE INPUT: true; the input reads as it did. -/
def logbookDecodesSpec : ChangeSpec := { name := "logbookDecodes", fn := fun _ => fun
  | [d1, d2, d3, d4, d5, d6, d7] => { results := [.lit (.bool true)], args := [d1, d2, d3, d4, d5, d6, d7] }
  | _ => none }
def logbookDecodesRow : OpenClaim := { program := "ythfenbdlolbikaadoor", sum := "165e04bb3aaa17bcaaa12540d08672adfb18b8bf62d6a3f8308d59d6571fde73", func := "putlog/putloglaw38.LogbookDecodes", spec := "logbookDecodes", inPlace := ["internal/abi.NoEscape", "internal/bytealg.MakeNoZero"], unfollowed := true, recurses := true, named := ["putlog/digest.round"], apart := false, laid := [("putlog/digest.round", laid_putlog_digest_round)] }
def LogbookDecodesSaid : Prop := logbookDecodesRow.holds Tryd.pinned (OpenSpec.ofChange logbookDecodesSpec)

/-- ITS FALSE NEIGHBOUR: 'it returns false'. Refute it at one input. -/
def logbookDecodesWrong : ChangeSpec := { name := "logbookDecodes", fn := fun _ => fun
  | [d1, d2, d3, d4, d5, d6, d7] => { results := [.lit (.bool false)], args := [d1, d2, d3, d4, d5, d6, d7] }
  | _ => none }
def LogbookDecodesWrongFalsely : Prop := logbookDecodesRow.holds Tryd.pinned (OpenSpec.ofChange logbookDecodesWrong)

/- THE SECOND FORM. 'bulk': how many values and letters a reading holds, each counted each time it is reached (what is shared counts as often as it is met; a slice's spare places count too). A statement '..UptoSaid' is the law's where the arguments, and the package variables that the reading takes, are together of bulk at most 1048576: NARROWER than '..Said'. Prove '..Said' where nothing that the law and all that it calls make is longer than what came in: it says more and counts as full. Else prove '..UptoSaid'. A law counts once. -/
mutual
def uptoBulk {H : Type} : DataW H → Nat
  | .lit (.string bytes) => bytes.length + 1
  | .lit _ => 1
  | .nil => 1
  | .ptr d => uptoBulk d + 1
  | .slice elems spare => uptoBulkAll elems + uptoBulkAll spare + 1
  | .agg parts => uptoBulkAll parts + 1
  | .iface _ d => uptoBulk d + 1
  | .map entries => uptoBulkEntries entries + 1
  | .held _ => 1
def uptoBulkAll {H : Type} : List (DataW H) → Nat
  | [] => 0
  | d :: r => uptoBulk d + uptoBulkAll r
def uptoBulkEntries {H : Type} : List (Lit × DataW H) → Nat
  | [] => 0
  | x :: r => uptoBulkEntry x + uptoBulkEntries r
def uptoBulkEntry {H : Type} : Lit × DataW H → Nat
  | (.string bytes, d) => bytes.length + uptoBulk d + 1
  | (_, d) => uptoBulk d + 1
 end
def uptoSmall : (H : Type) → List (DataW H) → Bool := fun _ ds => decide (uptoBulkAll ds ≤ 1048576)
def OpenSpec.upto (s : _root_.Go.ChangeSpec) : _root_.Go.OpenSpec := { _root_.Go.OpenSpec.ofChange s with cond := some uptoSmall }

/-- 'putloglaw38.LogbookMatchesReference', WHERE WHAT IT READS IS OF BULK AT MOST 1048576: true; the input reads as it did. -/
def logbookMatchesReferenceUptoRow : OpenClaim := { program := "ythfenbdlolbikaadoor", sum := "165e04bb3aaa17bcaaa12540d08672adfb18b8bf62d6a3f8308d59d6571fde73", func := "putlog/putloglaw38.LogbookMatchesReference", spec := "logbookMatchesReference", inPlace := ["internal/abi.NoEscape", "internal/bytealg.MakeNoZero"], unfollowed := true, recurses := true, named := ["putlog/digest.round"], apart := false, laid := [("putlog/digest.round", laid_putlog_digest_round)], narrowed := true }
def LogbookMatchesReferenceUptoSaid : Prop := logbookMatchesReferenceUptoRow.holds Tryd.pinned (OpenSpec.upto logbookMatchesReferenceSpec)

/-- 'putloglaw38.LogbookStays', WHERE WHAT IT READS IS OF BULK AT MOST 1048576: true; the input reads as it did. -/
def logbookStaysUptoRow : OpenClaim := { program := "ythfenbdlolbikaadoor", sum := "165e04bb3aaa17bcaaa12540d08672adfb18b8bf62d6a3f8308d59d6571fde73", func := "putlog/putloglaw38.LogbookStays", spec := "logbookStays", inPlace := ["internal/abi.NoEscape", "internal/bytealg.MakeNoZero"], unfollowed := true, recurses := true, named := ["putlog/digest.round"], apart := false, laid := [("putlog/digest.round", laid_putlog_digest_round)], narrowed := true }
def LogbookStaysUptoSaid : Prop := logbookStaysUptoRow.holds Tryd.pinned (OpenSpec.upto logbookStaysSpec)

/-- 'putloglaw38.LogbookFinds', WHERE WHAT IT READS IS OF BULK AT MOST 1048576: true; the input reads as it did. -/
def logbookFindsUptoRow : OpenClaim := { program := "ythfenbdlolbikaadoor", sum := "165e04bb3aaa17bcaaa12540d08672adfb18b8bf62d6a3f8308d59d6571fde73", func := "putlog/putloglaw38.LogbookFinds", spec := "logbookFinds", inPlace := ["internal/abi.NoEscape", "internal/bytealg.MakeNoZero"], unfollowed := true, recurses := true, named := ["putlog/digest.round"], apart := false, laid := [("putlog/digest.round", laid_putlog_digest_round)], narrowed := true }
def LogbookFindsUptoSaid : Prop := logbookFindsUptoRow.holds Tryd.pinned (OpenSpec.upto logbookFindsSpec)

/-- 'putloglaw38.LogbookProved', WHERE WHAT IT READS IS OF BULK AT MOST 1048576: true; the input reads as it did. -/
def logbookProvedUptoRow : OpenClaim := { program := "ythfenbdlolbikaadoor", sum := "165e04bb3aaa17bcaaa12540d08672adfb18b8bf62d6a3f8308d59d6571fde73", func := "putlog/putloglaw38.LogbookProved", spec := "logbookProved", inPlace := ["internal/abi.NoEscape", "internal/bytealg.MakeNoZero"], unfollowed := true, recurses := true, named := ["putlog/digest.round"], apart := false, laid := [("putlog/digest.round", laid_putlog_digest_round)], narrowed := true }
def LogbookProvedUptoSaid : Prop := logbookProvedUptoRow.holds Tryd.pinned (OpenSpec.upto logbookProvedSpec)

/-- 'putloglaw38.LogbookSigned', WHERE WHAT IT READS IS OF BULK AT MOST 1048576: true; the input reads as it did. -/
def logbookSignedUptoRow : OpenClaim := { program := "ythfenbdlolbikaadoor", sum := "165e04bb3aaa17bcaaa12540d08672adfb18b8bf62d6a3f8308d59d6571fde73", func := "putlog/putloglaw38.LogbookSigned", spec := "logbookSigned", inPlace := ["internal/abi.NoEscape", "internal/bytealg.MakeNoZero"], unfollowed := true, recurses := true, named := ["putlog/digest.round"], apart := false, laid := [("putlog/digest.round", laid_putlog_digest_round)], narrowed := true }
def LogbookSignedUptoSaid : Prop := logbookSignedUptoRow.holds Tryd.pinned (OpenSpec.upto logbookSignedSpec)

/-- 'putloglaw38.LogbookDecodes', WHERE WHAT IT READS IS OF BULK AT MOST 1048576: true; the input reads as it did. -/
def logbookDecodesUptoRow : OpenClaim := { program := "ythfenbdlolbikaadoor", sum := "165e04bb3aaa17bcaaa12540d08672adfb18b8bf62d6a3f8308d59d6571fde73", func := "putlog/putloglaw38.LogbookDecodes", spec := "logbookDecodes", inPlace := ["internal/abi.NoEscape", "internal/bytealg.MakeNoZero"], unfollowed := true, recurses := true, named := ["putlog/digest.round"], apart := false, laid := [("putlog/digest.round", laid_putlog_digest_round)], narrowed := true }
def LogbookDecodesUptoSaid : Prop := logbookDecodesUptoRow.holds Tryd.pinned (OpenSpec.upto logbookDecodesSpec)

end Rows
end Go.Proofs.YthfenbdlolbikaaDoor

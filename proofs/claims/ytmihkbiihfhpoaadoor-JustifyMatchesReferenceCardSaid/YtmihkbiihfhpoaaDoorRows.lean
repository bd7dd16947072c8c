/-
  NARROWER THAN 'FOR EVERY INPUT', by the rows' own cells (each row's printed sentence says how): JustifyMatchesReference: laid · JustifyLeast: laid · JustifySupports: laid · JustifyRetracts: laid · JustifyCuts: laid · JustifyWhy: laid · JustifyMore: laid.
  DERIVED. THE GIVEN ROWS OF THIS SEAT. 7 by the template 'for every input the law returns true; each argument reads behind the call as it read before'; 0 by the template 'total and deterministic' (their statements: YtmihkbiihfhpoaaDoorTotals.lean).
  GIVEN WITH THE SEED: the statements are not yours to turn. If you find one false, say at which input.
  Laid BY PROGRAM, IN A SANDBOX (cutbox-rows.mjs): the forced cells as the released guide's own fill.sh prints them over the translation 45f67d2b889d781d… (all of the seat's roots in one cut). By AI agents, Wed Nov 11 2026. No macro, syntax, notation, axiom, sorry.
-/
import Derived.Test.YtmihkbiihfhpoaaDoorChecked
import GoSem.Claim
import GoSem.ClaimJoined
import GoSem.ClaimMapViews
import Derived.JoinedTies
import Derived.KernelRfl
namespace Go.Proofs.YtmihkbiihfhpoaaDoor
/- THE CELL 'sum', in the pinned program and in every row, IS THE sha256 OF THE DUMP (.gsa) THAT YtmihkbiihfhpoaaDoorProg.lean LOADS. Nothing in Lean hashes anything: it is a label: what it is worth is what the hold of that sum in a sandbox is worth. -/
noncomputable def Tryd.pinned : Pinned := { name := "ytmihkbiihfhpoaadoor", sum := "45f67d2b889d781d5f92afb7ff5893293fd97fff801f0010468186e87aa17738", checked := Tryd.checked }
namespace Rows
def none {H : Type} : Left H := { results := [], args := [] }

/- WHAT THE LISTED PACKAGE-LEVEL VARIABLES READ AS WHEN THE CALL BEGINS. Each datum BY PROGRAM (the guide's laid-datum.mjs) off the statement by which the dump's own 'gosem.cut.vars' lays the variable. In a bare row this is a premise. The card (YtmihkbiihfhpoaaDoorCards.lean) ties it to the program's text. -/
def laid_math_bits_deBruijn32tab {H : Type} : DataW H := .agg [.lit (.int .u8 0), .lit (.int .u8 1), .lit (.int .u8 28), .lit (.int .u8 2), .lit (.int .u8 29), .lit (.int .u8 14), .lit (.int .u8 24), .lit (.int .u8 3), .lit (.int .u8 30), .lit (.int .u8 22), .lit (.int .u8 20), .lit (.int .u8 15), .lit (.int .u8 25), .lit (.int .u8 17), .lit (.int .u8 4), .lit (.int .u8 8), .lit (.int .u8 31), .lit (.int .u8 27), .lit (.int .u8 13), .lit (.int .u8 23), .lit (.int .u8 21), .lit (.int .u8 19), .lit (.int .u8 16), .lit (.int .u8 7), .lit (.int .u8 26), .lit (.int .u8 12), .lit (.int .u8 18), .lit (.int .u8 6), .lit (.int .u8 11), .lit (.int .u8 5), .lit (.int .u8 10), .lit (.int .u8 9)]
def laid_math_bits_deBruijn64tab {H : Type} : DataW H := .agg [.lit (.int .u8 0), .lit (.int .u8 1), .lit (.int .u8 56), .lit (.int .u8 2), .lit (.int .u8 57), .lit (.int .u8 49), .lit (.int .u8 28), .lit (.int .u8 3), .lit (.int .u8 61), .lit (.int .u8 58), .lit (.int .u8 42), .lit (.int .u8 50), .lit (.int .u8 38), .lit (.int .u8 29), .lit (.int .u8 17), .lit (.int .u8 4), .lit (.int .u8 62), .lit (.int .u8 47), .lit (.int .u8 59), .lit (.int .u8 36), .lit (.int .u8 45), .lit (.int .u8 43), .lit (.int .u8 51), .lit (.int .u8 22), .lit (.int .u8 53), .lit (.int .u8 39), .lit (.int .u8 33), .lit (.int .u8 30), .lit (.int .u8 24), .lit (.int .u8 18), .lit (.int .u8 12), .lit (.int .u8 5), .lit (.int .u8 63), .lit (.int .u8 55), .lit (.int .u8 48), .lit (.int .u8 27), .lit (.int .u8 60), .lit (.int .u8 41), .lit (.int .u8 37), .lit (.int .u8 16), .lit (.int .u8 46), .lit (.int .u8 35), .lit (.int .u8 44), .lit (.int .u8 21), .lit (.int .u8 52), .lit (.int .u8 32), .lit (.int .u8 23), .lit (.int .u8 11), .lit (.int .u8 54), .lit (.int .u8 26), .lit (.int .u8 40), .lit (.int .u8 15), .lit (.int .u8 34), .lit (.int .u8 20), .lit (.int .u8 31), .lit (.int .u8 10), .lit (.int .u8 25), .lit (.int .u8 14), .lit (.int .u8 19), .lit (.int .u8 9), .lit (.int .u8 13), .lit (.int .u8 8), .lit (.int .u8 7), .lit (.int .u8 6)]

/-- 'putloglaw23.JustifyMatchesReference': WHATEVER THE INPUT: true; the input reads as it did. -/
def justifyMatchesReferenceSpec : ChangeSpec := { name := "justifyMatchesReference", fn := fun _ => fun
  | [d1, d2, d3, d4, d5, d6, d7, d8, d9, d10] => { results := [.lit (.bool true)], args := [d1, d2, d3, d4, d5, d6, d7, d8, d9, d10] }
  | _ => none }
def justifyMatchesReferenceRow : OpenClaim := { program := "ytmihkbiihfhpoaadoor", sum := "45f67d2b889d781d5f92afb7ff5893293fd97fff801f0010468186e87aa17738", func := "putlog/putloglaw23.JustifyMatchesReference", spec := "justifyMatchesReference", unfollowed := true, recurses := true, named := ["math/bits.deBruijn32tab", "math/bits.deBruijn64tab"], apart := false, laid := [("math/bits.deBruijn32tab", laid_math_bits_deBruijn32tab), ("math/bits.deBruijn64tab", laid_math_bits_deBruijn64tab)] }
def JustifyMatchesReferenceSaid : Prop := justifyMatchesReferenceRow.holds Tryd.pinned (OpenSpec.ofChange justifyMatchesReferenceSpec)

/-- ITS FALSE NEIGHBOUR: 'it returns false'. Refute it at one input. -/
def justifyMatchesReferenceWrong : ChangeSpec := { name := "justifyMatchesReference", fn := fun _ => fun
  | [d1, d2, d3, d4, d5, d6, d7, d8, d9, d10] => { results := [.lit (.bool false)], args := [d1, d2, d3, d4, d5, d6, d7, d8, d9, d10] }
  | _ => none }
def JustifyMatchesReferenceWrongFalsely : Prop := justifyMatchesReferenceRow.holds Tryd.pinned (OpenSpec.ofChange justifyMatchesReferenceWrong)

/-- 'putloglaw23.JustifyLeast': WHATEVER THE INPUT: true; the input reads as it did. -/
def justifyLeastSpec : ChangeSpec := { name := "justifyLeast", fn := fun _ => fun
  | [d1, d2, d3, d4, d5, d6] => { results := [.lit (.bool true)], args := [d1, d2, d3, d4, d5, d6] }
  | _ => none }
def justifyLeastRow : OpenClaim := { program := "ytmihkbiihfhpoaadoor", sum := "45f67d2b889d781d5f92afb7ff5893293fd97fff801f0010468186e87aa17738", func := "putlog/putloglaw23.JustifyLeast", spec := "justifyLeast", unfollowed := true, recurses := true, named := ["math/bits.deBruijn32tab", "math/bits.deBruijn64tab"], apart := false, laid := [("math/bits.deBruijn32tab", laid_math_bits_deBruijn32tab), ("math/bits.deBruijn64tab", laid_math_bits_deBruijn64tab)] }
def JustifyLeastSaid : Prop := justifyLeastRow.holds Tryd.pinned (OpenSpec.ofChange justifyLeastSpec)

/-- ITS FALSE NEIGHBOUR: 'it returns false'. Refute it at one input. -/
def justifyLeastWrong : ChangeSpec := { name := "justifyLeast", fn := fun _ => fun
  | [d1, d2, d3, d4, d5, d6] => { results := [.lit (.bool false)], args := [d1, d2, d3, d4, d5, d6] }
  | _ => none }
def JustifyLeastWrongFalsely : Prop := justifyLeastRow.holds Tryd.pinned (OpenSpec.ofChange justifyLeastWrong)

/-- 'putloglaw23.JustifySupports': WHATEVER THE INPUT: true; the input reads as it did. -/
def justifySupportsSpec : ChangeSpec := { name := "justifySupports", fn := fun _ => fun
  | [d1, d2, d3, d4, d5] => { results := [.lit (.bool true)], args := [d1, d2, d3, d4, d5] }
  | _ => none }
def justifySupportsRow : OpenClaim := { program := "ytmihkbiihfhpoaadoor", sum := "45f67d2b889d781d5f92afb7ff5893293fd97fff801f0010468186e87aa17738", func := "putlog/putloglaw23.JustifySupports", spec := "justifySupports", unfollowed := true, recurses := true, named := ["math/bits.deBruijn32tab", "math/bits.deBruijn64tab"], apart := false, laid := [("math/bits.deBruijn32tab", laid_math_bits_deBruijn32tab), ("math/bits.deBruijn64tab", laid_math_bits_deBruijn64tab)] }
def JustifySupportsSaid : Prop := justifySupportsRow.holds Tryd.pinned (OpenSpec.ofChange justifySupportsSpec)

/-- ITS FALSE NEIGHBOUR: 'it returns false'. Refute it at one input. -/
def justifySupportsWrong : ChangeSpec := { name := "justifySupports", fn := fun _ => fun
  | [d1, d2, d3, d4, d5] => { results := [.lit (.bool false)], args := [d1, d2, d3, d4, d5] }
  | _ => none }
def JustifySupportsWrongFalsely : Prop := justifySupportsRow.holds Tryd.pinned (OpenSpec.ofChange justifySupportsWrong)

/-- 'putloglaw23.JustifyRetracts': WHATEVER THE INPUT: true; the input reads as it did. -/
def justifyRetractsSpec : ChangeSpec := { name := "justifyRetracts", fn := fun _ => fun
  | [d1, d2, d3, d4, d5, d6] => { results := [.lit (.bool true)], args := [d1, d2, d3, d4, d5, d6] }
  | _ => none }
def justifyRetractsRow : OpenClaim := { program := "ytmihkbiihfhpoaadoor", sum := "45f67d2b889d781d5f92afb7ff5893293fd97fff801f0010468186e87aa17738", func := "putlog/putloglaw23.JustifyRetracts", spec := "justifyRetracts", unfollowed := true, recurses := true, named := ["math/bits.deBruijn32tab", "math/bits.deBruijn64tab"], apart := false, laid := [("math/bits.deBruijn32tab", laid_math_bits_deBruijn32tab), ("math/bits.deBruijn64tab", laid_math_bits_deBruijn64tab)] }
def JustifyRetractsSaid : Prop := justifyRetractsRow.holds Tryd.pinned (OpenSpec.ofChange justifyRetractsSpec)

/-- ITS FALSE NEIGHBOUR: 'it returns false'. Refute it at one input. -/
def justifyRetractsWrong : ChangeSpec := { name := "justifyRetracts", fn := fun _ => fun
  | [d1, d2, d3, d4, d5, d6] => { results := [.lit (.bool false)], args := [d1, d2, d3, d4, d5, d6] }
  | _ => none }
def JustifyRetractsWrongFalsely : Prop := justifyRetractsRow.holds Tryd.pinned (OpenSpec.ofChange justifyRetractsWrong)

/-- 'putloglaw23.JustifyCuts': WHATEVER THE INPUT: true; the input reads as it did. -/
def justifyCutsSpec : ChangeSpec := { name := "justifyCuts", fn := fun _ => fun
  | [d1, d2, d3, d4, d5] => { results := [.lit (.bool true)], args := [d1, d2, d3, d4, d5] }
  | _ => none }
def justifyCutsRow : OpenClaim := { program := "ytmihkbiihfhpoaadoor", sum := "45f67d2b889d781d5f92afb7ff5893293fd97fff801f0010468186e87aa17738", func := "putlog/putloglaw23.JustifyCuts", spec := "justifyCuts", unfollowed := true, recurses := true, named := ["math/bits.deBruijn32tab", "math/bits.deBruijn64tab"], apart := false, laid := [("math/bits.deBruijn32tab", laid_math_bits_deBruijn32tab), ("math/bits.deBruijn64tab", laid_math_bits_deBruijn64tab)] }
def JustifyCutsSaid : Prop := justifyCutsRow.holds Tryd.pinned (OpenSpec.ofChange justifyCutsSpec)

/-- ITS FALSE NEIGHBOUR: 'it returns false'. Refute it at one input. -/
def justifyCutsWrong : ChangeSpec := { name := "justifyCuts", fn := fun _ => fun
  | [d1, d2, d3, d4, d5] => { results := [.lit (.bool false)], args := [d1, d2, d3, d4, d5] }
  | _ => none }
def JustifyCutsWrongFalsely : Prop := justifyCutsRow.holds Tryd.pinned (OpenSpec.ofChange justifyCutsWrong)

/-- 'putloglaw23.JustifyWhy': WHATEVER THE INPUT: true; the input reads as it did. -/
def justifyWhySpec : ChangeSpec := { name := "justifyWhy", fn := fun _ => fun
  | [d1, d2, d3, d4, d5] => { results := [.lit (.bool true)], args := [d1, d2, d3, d4, d5] }
  | _ => none }
def justifyWhyRow : OpenClaim := { program := "ytmihkbiihfhpoaadoor", sum := "45f67d2b889d781d5f92afb7ff5893293fd97fff801f0010468186e87aa17738", func := "putlog/putloglaw23.JustifyWhy", spec := "justifyWhy", unfollowed := true, recurses := true, named := ["math/bits.deBruijn32tab", "math/bits.deBruijn64tab"], apart := false, laid := [("math/bits.deBruijn32tab", laid_math_bits_deBruijn32tab), ("math/bits.deBruijn64tab", laid_math_bits_deBruijn64tab)] }
def JustifyWhySaid : Prop := justifyWhyRow.holds Tryd.pinned (OpenSpec.ofChange justifyWhySpec)

/-- ITS FALSE NEIGHBOUR: 'it returns false'. Refute it at one input. -/
def justifyWhyWrong : ChangeSpec := { name := "justifyWhy", fn := fun _ => fun
  | [d1, d2, d3, d4, d5] => { results := [.lit (.bool false)], args := [d1, d2, d3, d4, d5] }
  | _ => none }
def JustifyWhyWrongFalsely : Prop := justifyWhyRow.holds Tryd.pinned (OpenSpec.ofChange justifyWhyWrong)

/-- 'putloglaw23.JustifyMore': WHATEVER THE INPUT: true; the input reads as it did. -/
def justifyMoreSpec : ChangeSpec := { name := "justifyMore", fn := fun _ => fun
  | [d1, d2, d3, d4, d5, d6, d7, d8] => { results := [.lit (.bool true)], args := [d1, d2, d3, d4, d5, d6, d7, d8] }
  | _ => none }
def justifyMoreRow : OpenClaim := { program := "ytmihkbiihfhpoaadoor", sum := "45f67d2b889d781d5f92afb7ff5893293fd97fff801f0010468186e87aa17738", func := "putlog/putloglaw23.JustifyMore", spec := "justifyMore", unfollowed := true, recurses := true, named := ["math/bits.deBruijn32tab", "math/bits.deBruijn64tab"], apart := false, laid := [("math/bits.deBruijn32tab", laid_math_bits_deBruijn32tab), ("math/bits.deBruijn64tab", laid_math_bits_deBruijn64tab)] }
def JustifyMoreSaid : Prop := justifyMoreRow.holds Tryd.pinned (OpenSpec.ofChange justifyMoreSpec)

/-- ITS FALSE NEIGHBOUR: 'it returns false'. Refute it at one input. -/
def justifyMoreWrong : ChangeSpec := { name := "justifyMore", fn := fun _ => fun
  | [d1, d2, d3, d4, d5, d6, d7, d8] => { results := [.lit (.bool false)], args := [d1, d2, d3, d4, d5, d6, d7, d8] }
  | _ => none }
def JustifyMoreWrongFalsely : Prop := justifyMoreRow.holds Tryd.pinned (OpenSpec.ofChange justifyMoreWrong)

/- THE SECOND FORM. 'bulk': how many values and letters a reading holds, each counted each time it is reached (what is shared counts as often as it is met; a slice's spare places count too). A statement '..UptoSaid' is the law's where the arguments, and the package variables that the reading takes, are together of bulk at most 1048576: NARROWER than '..Said'. Prove '..Said' where nothing that the law and all that it calls make is longer than what came in: it says more and counts as full. Else prove '..UptoSaid'. A law counts once. -/
mutual
def uptoBulk {H : Type} : DataW H → Nat
  | .lit (.string bytes) => bytes.length + 1
  | .lit _ => 1
  | .nil => 1
  | .ptr d => uptoBulk d + 1
  | .slice elems spare => uptoBulkAll elems + uptoBulkAll spare + 1
  | .agg parts => uptoBulkAll parts + 1
  | .iface _ d => uptoBulk d + 1
  | .map entries => uptoBulkEntries entries + 1
  | .held _ => 1
def uptoBulkAll {H : Type} : List (DataW H) → Nat
  | [] => 0
  | d :: r => uptoBulk d + uptoBulkAll r
def uptoBulkEntries {H : Type} : List (Lit × DataW H) → Nat
  | [] => 0
  | x :: r => uptoBulkEntry x + uptoBulkEntries r
def uptoBulkEntry {H : Type} : Lit × DataW H → Nat
  | (.string bytes, d) => bytes.length + uptoBulk d + 1
  | (_, d) => uptoBulk d + 1
 end
def uptoSmall : (H : Type) → List (DataW H) → Bool := fun _ ds => decide (uptoBulkAll ds ≤ 1048576)
def OpenSpec.upto (s : _root_.Go.ChangeSpec) : _root_.Go.OpenSpec := { _root_.Go.OpenSpec.ofChange s with cond := some uptoSmall }

/-- 'putloglaw23.JustifyMatchesReference', WHERE WHAT IT READS IS OF BULK AT MOST 1048576: true; the input reads as it did. -/
def justifyMatchesReferenceUptoRow : OpenClaim := { program := "ytmihkbiihfhpoaadoor", sum := "45f67d2b889d781d5f92afb7ff5893293fd97fff801f0010468186e87aa17738", func := "putlog/putloglaw23.JustifyMatchesReference", spec := "justifyMatchesReference", unfollowed := true, recurses := true, named := ["math/bits.deBruijn32tab", "math/bits.deBruijn64tab"], apart := false, laid := [("math/bits.deBruijn32tab", laid_math_bits_deBruijn32tab), ("math/bits.deBruijn64tab", laid_math_bits_deBruijn64tab)], narrowed := true }
def JustifyMatchesReferenceUptoSaid : Prop := justifyMatchesReferenceUptoRow.holds Tryd.pinned (OpenSpec.upto justifyMatchesReferenceSpec)

/-- 'putloglaw23.JustifyLeast', WHERE WHAT IT READS IS OF BULK AT MOST 1048576: true; the input reads as it did. -/
def justifyLeastUptoRow : OpenClaim := { program := "ytmihkbiihfhpoaadoor", sum := "45f67d2b889d781d5f92afb7ff5893293fd97fff801f0010468186e87aa17738", func := "putlog/putloglaw23.JustifyLeast", spec := "justifyLeast", unfollowed := true, recurses := true, named := ["math/bits.deBruijn32tab", "math/bits.deBruijn64tab"], apart := false, laid := [("math/bits.deBruijn32tab", laid_math_bits_deBruijn32tab), ("math/bits.deBruijn64tab", laid_math_bits_deBruijn64tab)], narrowed := true }
def JustifyLeastUptoSaid : Prop := justifyLeastUptoRow.holds Tryd.pinned (OpenSpec.upto justifyLeastSpec)

/-- 'putloglaw23.JustifySupports', WHERE WHAT IT READS IS OF BULK AT MOST 1048576: true; the input reads as it did. -/
def justifySupportsUptoRow : OpenClaim := { program := "ytmihkbiihfhpoaadoor", sum := "45f67d2b889d781d5f92afb7ff5893293fd97fff801f0010468186e87aa17738", func := "putlog/putloglaw23.JustifySupports", spec := "justifySupports", unfollowed := true, recurses := true, named := ["math/bits.deBruijn32tab", "math/bits.deBruijn64tab"], apart := false, laid := [("math/bits.deBruijn32tab", laid_math_bits_deBruijn32tab), ("math/bits.deBruijn64tab", laid_math_bits_deBruijn64tab)], narrowed := true }
def JustifySupportsUptoSaid : Prop := justifySupportsUptoRow.holds Tryd.pinned (OpenSpec.upto justifySupportsSpec)

/-- 'putloglaw23.JustifyRetracts', WHERE WHAT IT READS IS OF BULK AT MOST 1048576: true; the input reads as it did. -/
def justifyRetractsUptoRow : OpenClaim := { program := "ytmihkbiihfhpoaadoor", sum := "45f67d2b889d781d5f92afb7ff5893293fd97fff801f0010468186e87aa17738", func := "putlog/putloglaw23.JustifyRetracts", spec := "justifyRetracts", unfollowed := true, recurses := true, named := ["math/bits.deBruijn32tab", "math/bits.deBruijn64tab"], apart := false, laid := [("math/bits.deBruijn32tab", laid_math_bits_deBruijn32tab), ("math/bits.deBruijn64tab", laid_math_bits_deBruijn64tab)], narrowed := true }
def JustifyRetractsUptoSaid : Prop := justifyRetractsUptoRow.holds Tryd.pinned (OpenSpec.upto justifyRetractsSpec)

/-- 'putloglaw23.JustifyCuts', WHERE WHAT IT READS IS OF BULK AT MOST 1048576: true; the input reads as it did. -/
def justifyCutsUptoRow : OpenClaim := { program := "ytmihkbiihfhpoaadoor", sum := "45f67d2b889d781d5f92afb7ff5893293fd97fff801f0010468186e87aa17738", func := "putlog/putloglaw23.JustifyCuts", spec := "justifyCuts", unfollowed := true, recurses := true, named := ["math/bits.deBruijn32tab", "math/bits.deBruijn64tab"], apart := false, laid := [("math/bits.deBruijn32tab", laid_math_bits_deBruijn32tab), ("math/bits.deBruijn64tab", laid_math_bits_deBruijn64tab)], narrowed := true }
def JustifyCutsUptoSaid : Prop := justifyCutsUptoRow.holds Tryd.pinned (OpenSpec.upto justifyCutsSpec)

/-- 'putloglaw23.JustifyWhy', WHERE WHAT IT READS IS OF BULK AT MOST 1048576: true; the input reads as it did. -/
def justifyWhyUptoRow : OpenClaim := { program := "ytmihkbiihfhpoaadoor", sum := "45f67d2b889d781d5f92afb7ff5893293fd97fff801f0010468186e87aa17738", func := "putlog/putloglaw23.JustifyWhy", spec := "justifyWhy", unfollowed := true, recurses := true, named := ["math/bits.deBruijn32tab", "math/bits.deBruijn64tab"], apart := false, laid := [("math/bits.deBruijn32tab", laid_math_bits_deBruijn32tab), ("math/bits.deBruijn64tab", laid_math_bits_deBruijn64tab)], narrowed := true }
def JustifyWhyUptoSaid : Prop := justifyWhyUptoRow.holds Tryd.pinned (OpenSpec.upto justifyWhySpec)

/-- 'putloglaw23.JustifyMore', WHERE WHAT IT READS IS OF BULK AT MOST 1048576: true; the input reads as it did. -/
def justifyMoreUptoRow : OpenClaim := { program := "ytmihkbiihfhpoaadoor", sum := "45f67d2b889d781d5f92afb7ff5893293fd97fff801f0010468186e87aa17738", func := "putlog/putloglaw23.JustifyMore", spec := "justifyMore", unfollowed := true, recurses := true, named := ["math/bits.deBruijn32tab", "math/bits.deBruijn64tab"], apart := false, laid := [("math/bits.deBruijn32tab", laid_math_bits_deBruijn32tab), ("math/bits.deBruijn64tab", laid_math_bits_deBruijn64tab)], narrowed := true }
def JustifyMoreUptoSaid : Prop := justifyMoreUptoRow.holds Tryd.pinned (OpenSpec.upto justifyMoreSpec)

end Rows
end Go.Proofs.YtmihkbiihfhpoaaDoor

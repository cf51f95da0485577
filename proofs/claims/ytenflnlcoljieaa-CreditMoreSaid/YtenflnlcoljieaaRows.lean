/-
  No cell of these rows narrows 'for every input' (looked for: loops, veiled, ifaces, maps, wideKeys, modest, calm, conditions, laid).
  DERIVED. THE GIVEN ROWS OF THIS SEAT. 5 by the template 'for every input the law returns true; each argument reads behind the call as it read before'; 0 by the template 'total and deterministic' (their statements: YtenflnlcoljieaaTotals.lean).
  GIVEN WITH THE SEED: the statements are not yours to turn. If you find one false, say at which input.
  Laid BY PROGRAM, IN A SANDBOX (cutbox-rows.mjs): the forced cells as the released guide's own fill.sh prints them over the translation 0b4e8ac8b36cec60… (all of the seat's roots in one cut). By AI agents, Wed Nov 11 2026. No macro, syntax, notation, axiom, sorry.
-/
import Derived.Test.YtenflnlcoljieaaChecked
import GoSem.Claim
import GoSem.ClaimJoined
import GoSem.ClaimMapViews
import Derived.JoinedTies
import Derived.KernelRfl
namespace Go.Proofs.Ytenflnlcoljieaa
/- THE CELL 'sum', in the pinned program and in every row, IS THE sha256 OF THE DUMP (.gsa) THAT YtenflnlcoljieaaProg.lean LOADS. Nothing in Lean hashes anything: it is a label: what it is worth is what the hold of that sum in a sandbox is worth. -/
noncomputable def Try.pinned : Pinned := { name := "ytenflnlcoljieaa", sum := "0b4e8ac8b36cec603ebe1ec86c7f89fb9b053400e102992eb2f3dac5fd60b610", checked := Try.checked }
namespace Rows
def none {H : Type} : Left H := { results := [], args := [] }

/-- 'lodgerlaw16.CreditTells': WHATEVER THE INPUT: true; the input reads as it did. -/
def creditTellsSpec : ChangeSpec := { name := "creditTells", fn := fun _ => fun
  | [d1, d2, d3] => { results := [.lit (.bool true)], args := [d1, d2, d3] }
  | _ => none }
def creditTellsRow : OpenClaim := { program := "ytenflnlcoljieaa", sum := "0b4e8ac8b36cec603ebe1ec86c7f89fb9b053400e102992eb2f3dac5fd60b610", func := "lodger/lodgerlaw16.CreditTells", spec := "creditTells", unfollowed := true, recurses := true, apart := false }
def CreditTellsSaid : Prop := creditTellsRow.holds Try.pinned (OpenSpec.ofChange creditTellsSpec)

/-- ITS FALSE NEIGHBOUR: 'it returns false'. Refute it at one input. -/
def creditTellsWrong : ChangeSpec := { name := "creditTells", fn := fun _ => fun
  | [d1, d2, d3] => { results := [.lit (.bool false)], args := [d1, d2, d3] }
  | _ => none }
def CreditTellsWrongFalsely : Prop := creditTellsRow.holds Try.pinned (OpenSpec.ofChange creditTellsWrong)

/-- 'lodgerlaw16.CreditKeeps': WHATEVER THE INPUT: true; the input reads as it did. -/
def creditKeepsSpec : ChangeSpec := { name := "creditKeeps", fn := fun _ => fun
  | [d1, d2, d3] => { results := [.lit (.bool true)], args := [d1, d2, d3] }
  | _ => none }
def creditKeepsRow : OpenClaim := { program := "ytenflnlcoljieaa", sum := "0b4e8ac8b36cec603ebe1ec86c7f89fb9b053400e102992eb2f3dac5fd60b610", func := "lodger/lodgerlaw16.CreditKeeps", spec := "creditKeeps", unfollowed := true, recurses := true, apart := false }
def CreditKeepsSaid : Prop := creditKeepsRow.holds Try.pinned (OpenSpec.ofChange creditKeepsSpec)

/-- ITS FALSE NEIGHBOUR: 'it returns false'. Refute it at one input. -/
def creditKeepsWrong : ChangeSpec := { name := "creditKeeps", fn := fun _ => fun
  | [d1, d2, d3] => { results := [.lit (.bool false)], args := [d1, d2, d3] }
  | _ => none }
def CreditKeepsWrongFalsely : Prop := creditKeepsRow.holds Try.pinned (OpenSpec.ofChange creditKeepsWrong)

/-- 'lodgerlaw16.CreditFair': WHATEVER THE INPUT: true; the input reads as it did. -/
def creditFairSpec : ChangeSpec := { name := "creditFair", fn := fun _ => fun
  | [d1, d2, d3] => { results := [.lit (.bool true)], args := [d1, d2, d3] }
  | _ => none }
def creditFairRow : OpenClaim := { program := "ytenflnlcoljieaa", sum := "0b4e8ac8b36cec603ebe1ec86c7f89fb9b053400e102992eb2f3dac5fd60b610", func := "lodger/lodgerlaw16.CreditFair", spec := "creditFair", unfollowed := true, recurses := true, apart := false }
def CreditFairSaid : Prop := creditFairRow.holds Try.pinned (OpenSpec.ofChange creditFairSpec)

/-- ITS FALSE NEIGHBOUR: 'it returns false'. Refute it at one input. -/
def creditFairWrong : ChangeSpec := { name := "creditFair", fn := fun _ => fun
  | [d1, d2, d3] => { results := [.lit (.bool false)], args := [d1, d2, d3] }
  | _ => none }
def CreditFairWrongFalsely : Prop := creditFairRow.holds Try.pinned (OpenSpec.ofChange creditFairWrong)

/-- 'lodgerlaw16.CreditParts': WHATEVER THE INPUT: true; the input reads as it did. -/
def creditPartsSpec : ChangeSpec := { name := "creditParts", fn := fun _ => fun
  | [d1, d2, d3] => { results := [.lit (.bool true)], args := [d1, d2, d3] }
  | _ => none }
def creditPartsRow : OpenClaim := { program := "ytenflnlcoljieaa", sum := "0b4e8ac8b36cec603ebe1ec86c7f89fb9b053400e102992eb2f3dac5fd60b610", func := "lodger/lodgerlaw16.CreditParts", spec := "creditParts", unfollowed := true, recurses := true, apart := false }
def CreditPartsSaid : Prop := creditPartsRow.holds Try.pinned (OpenSpec.ofChange creditPartsSpec)

/-- ITS FALSE NEIGHBOUR: 'it returns false'. Refute it at one input. -/
def creditPartsWrong : ChangeSpec := { name := "creditParts", fn := fun _ => fun
  | [d1, d2, d3] => { results := [.lit (.bool false)], args := [d1, d2, d3] }
  | _ => none }
def CreditPartsWrongFalsely : Prop := creditPartsRow.holds Try.pinned (OpenSpec.ofChange creditPartsWrong)

/-- 'lodgerlaw16.CreditMore': WHATEVER THE INPUT: true; the input reads as it did. -/
def creditMoreSpec : ChangeSpec := { name := "creditMore", fn := fun _ => fun
  | [d1, d2, d3] => { results := [.lit (.bool true)], args := [d1, d2, d3] }
  | _ => none }
def creditMoreRow : OpenClaim := { program := "ytenflnlcoljieaa", sum := "0b4e8ac8b36cec603ebe1ec86c7f89fb9b053400e102992eb2f3dac5fd60b610", func := "lodger/lodgerlaw16.CreditMore", spec := "creditMore", unfollowed := true, recurses := true, apart := false }
def CreditMoreSaid : Prop := creditMoreRow.holds Try.pinned (OpenSpec.ofChange creditMoreSpec)

/-- ITS FALSE NEIGHBOUR: 'it returns false'. Refute it at one input. -/
def creditMoreWrong : ChangeSpec := { name := "creditMore", fn := fun _ => fun
  | [d1, d2, d3] => { results := [.lit (.bool false)], args := [d1, d2, d3] }
  | _ => none }
def CreditMoreWrongFalsely : Prop := creditMoreRow.holds Try.pinned (OpenSpec.ofChange creditMoreWrong)

/- THE SECOND FORM. 'bulk': how many values and letters a reading holds, each counted each time it is reached (what is shared counts as often as it is met; a slice's spare places count too). A statement '..UptoSaid' is the law's where the arguments, and the package variables that the reading takes, are together of bulk at most 1048576: NARROWER than '..Said'. Prove '..Said' where nothing that the law and all that it calls make is longer than what came in: it says more and counts as full. Else prove '..UptoSaid'. A law counts once. -/
mutual
def uptoBulk {H : Type} : DataW H → Nat
  | .lit (.string bytes) => bytes.length + 1
  | .lit _ => 1
  | .nil => 1
  | .ptr d => uptoBulk d + 1
  | .slice elems spare => uptoBulkAll elems + uptoBulkAll spare + 1
  | .agg parts => uptoBulkAll parts + 1
  | .iface _ d => uptoBulk d + 1
  | .map entries => uptoBulkEntries entries + 1
  | .held _ => 1
def uptoBulkAll {H : Type} : List (DataW H) → Nat
  | [] => 0
  | d :: r => uptoBulk d + uptoBulkAll r
def uptoBulkEntries {H : Type} : List (Lit × DataW H) → Nat
  | [] => 0
  | x :: r => uptoBulkEntry x + uptoBulkEntries r
def uptoBulkEntry {H : Type} : Lit × DataW H → Nat
  | (.string bytes, d) => bytes.length + uptoBulk d + 1
  | (_, d) => uptoBulk d + 1
 end
def uptoSmall : (H : Type) → List (DataW H) → Bool := fun _ ds => decide (uptoBulkAll ds ≤ 1048576)
def OpenSpec.upto (s : _root_.Go.ChangeSpec) : _root_.Go.OpenSpec := { _root_.Go.OpenSpec.ofChange s with cond := some uptoSmall }

/-- 'lodgerlaw16.CreditTells', WHERE WHAT IT READS IS OF BULK AT MOST 1048576: true; the input reads as it did. -/
def creditTellsUptoRow : OpenClaim := { program := "ytenflnlcoljieaa", sum := "0b4e8ac8b36cec603ebe1ec86c7f89fb9b053400e102992eb2f3dac5fd60b610", func := "lodger/lodgerlaw16.CreditTells", spec := "creditTells", unfollowed := true, recurses := true, apart := false, narrowed := true }
def CreditTellsUptoSaid : Prop := creditTellsUptoRow.holds Try.pinned (OpenSpec.upto creditTellsSpec)

/-- 'lodgerlaw16.CreditKeeps', WHERE WHAT IT READS IS OF BULK AT MOST 1048576: true; the input reads as it did. -/
def creditKeepsUptoRow : OpenClaim := { program := "ytenflnlcoljieaa", sum := "0b4e8ac8b36cec603ebe1ec86c7f89fb9b053400e102992eb2f3dac5fd60b610", func := "lodger/lodgerlaw16.CreditKeeps", spec := "creditKeeps", unfollowed := true, recurses := true, apart := false, narrowed := true }
def CreditKeepsUptoSaid : Prop := creditKeepsUptoRow.holds Try.pinned (OpenSpec.upto creditKeepsSpec)

/-- 'lodgerlaw16.CreditFair', WHERE WHAT IT READS IS OF BULK AT MOST 1048576: true; the input reads as it did. -/
def creditFairUptoRow : OpenClaim := { program := "ytenflnlcoljieaa", sum := "0b4e8ac8b36cec603ebe1ec86c7f89fb9b053400e102992eb2f3dac5fd60b610", func := "lodger/lodgerlaw16.CreditFair", spec := "creditFair", unfollowed := true, recurses := true, apart := false, narrowed := true }
def CreditFairUptoSaid : Prop := creditFairUptoRow.holds Try.pinned (OpenSpec.upto creditFairSpec)

/-- 'lodgerlaw16.CreditParts', WHERE WHAT IT READS IS OF BULK AT MOST 1048576: true; the input reads as it did. -/
def creditPartsUptoRow : OpenClaim := { program := "ytenflnlcoljieaa", sum := "0b4e8ac8b36cec603ebe1ec86c7f89fb9b053400e102992eb2f3dac5fd60b610", func := "lodger/lodgerlaw16.CreditParts", spec := "creditParts", unfollowed := true, recurses := true, apart := false, narrowed := true }
def CreditPartsUptoSaid : Prop := creditPartsUptoRow.holds Try.pinned (OpenSpec.upto creditPartsSpec)

/-- 'lodgerlaw16.CreditMore', WHERE WHAT IT READS IS OF BULK AT MOST 1048576: true; the input reads as it did. -/
def creditMoreUptoRow : OpenClaim := { program := "ytenflnlcoljieaa", sum := "0b4e8ac8b36cec603ebe1ec86c7f89fb9b053400e102992eb2f3dac5fd60b610", func := "lodger/lodgerlaw16.CreditMore", spec := "creditMore", unfollowed := true, recurses := true, apart := false, narrowed := true }
def CreditMoreUptoSaid : Prop := creditMoreUptoRow.holds Try.pinned (OpenSpec.upto creditMoreSpec)

end Rows
end Go.Proofs.Ytenflnlcoljieaa

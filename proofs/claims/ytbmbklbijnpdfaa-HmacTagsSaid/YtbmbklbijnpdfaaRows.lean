/-
  No cell of these rows narrows 'for every input' (looked for: loops, veiled, ifaces, maps, wideKeys, modest, calm, conditions, laid).
  DERIVED. THE GIVEN ROWS OF THIS SEAT. 10 by the template 'for every input the law returns true; each argument reads behind the call as it read before'; 0 by the template 'total and deterministic' (their statements: YtbmbklbijnpdfaaTotals.lean).
  GIVEN WITH THE SEED: the statements are not yours to turn. If you find one false, say at which input.
  Laid BY PROGRAM, IN A SANDBOX (cutbox-rows.mjs): the forced cells as the released guide's own fill.sh prints them over the translation 603989cfbdb7aeeb… (all of the seat's roots in one cut). By AI agents, Wed Nov 11 2026. No macro, syntax, notation, axiom, sorry.
-/
import Derived.Test.YtbmbklbijnpdfaaChecked
import GoSem.Claim
import GoSem.ClaimJoined
import GoSem.ClaimMapViews
import Derived.JoinedTies
import Derived.KernelRfl
namespace Go.Proofs.Ytbmbklbijnpdfaa
/- THE CELL 'sum', in the pinned program and in every row, IS THE sha256 OF THE DUMP (.gsa) THAT YtbmbklbijnpdfaaProg.lean LOADS. Nothing in Lean hashes anything: it is a label: what it is worth is what the hold of that sum in a sandbox is worth. -/
noncomputable def Try.pinned : Pinned := { name := "ytbmbklbijnpdfaa", sum := "603989cfbdb7aeeb2f83f19ac3a7780dcbd4f9ccc970c65bd1c74d9010d5cf2c", checked := Try.checked }
namespace Rows
def none {H : Type} : Left H := { results := [], args := [] }

/-- 'baileylaw03.ShaBlocks': WHATEVER THE INPUT: true; the input reads as it did. -/
def shaBlocksSpec : ChangeSpec := { name := "shaBlocks", fn := fun _ => fun
  | [d1, d2] => { results := [.lit (.bool true)], args := [d1, d2] }
  | _ => none }
def shaBlocksRow : OpenClaim := { program := "ytbmbklbijnpdfaa", sum := "603989cfbdb7aeeb2f83f19ac3a7780dcbd4f9ccc970c65bd1c74d9010d5cf2c", func := "bailey/baileylaw03.ShaBlocks", spec := "shaBlocks", apart := false }
def ShaBlocksSaid : Prop := shaBlocksRow.holds Try.pinned (OpenSpec.ofChange shaBlocksSpec)

/-- ITS FALSE NEIGHBOUR: 'it returns false'. Refute it at one input. -/
def shaBlocksWrong : ChangeSpec := { name := "shaBlocks", fn := fun _ => fun
  | [d1, d2] => { results := [.lit (.bool false)], args := [d1, d2] }
  | _ => none }
def ShaBlocksWrongFalsely : Prop := shaBlocksRow.holds Try.pinned (OpenSpec.ofChange shaBlocksWrong)

/-- 'baileylaw03.ShaPads': WHATEVER THE INPUT: true; the input reads as it did. -/
def shaPadsSpec : ChangeSpec := { name := "shaPads", fn := fun _ => fun
  | [d] => { results := [.lit (.bool true)], args := [d] }
  | _ => none }
def shaPadsRow : OpenClaim := { program := "ytbmbklbijnpdfaa", sum := "603989cfbdb7aeeb2f83f19ac3a7780dcbd4f9ccc970c65bd1c74d9010d5cf2c", func := "bailey/baileylaw03.ShaPads", spec := "shaPads", apart := false }
def ShaPadsSaid : Prop := shaPadsRow.holds Try.pinned (OpenSpec.ofChange shaPadsSpec)

/-- ITS FALSE NEIGHBOUR: 'it returns false'. Refute it at one input. -/
def shaPadsWrong : ChangeSpec := { name := "shaPads", fn := fun _ => fun
  | [d] => { results := [.lit (.bool false)], args := [d] }
  | _ => none }
def ShaPadsWrongFalsely : Prop := shaPadsRow.holds Try.pinned (OpenSpec.ofChange shaPadsWrong)

/-- 'baileylaw03.ShaNobody': WHATEVER THE INPUT: true; the input reads as it did. -/
def shaNobodySpec : ChangeSpec := { name := "shaNobody", fn := fun _ => fun
  | [d] => { results := [.lit (.bool true)], args := [d] }
  | _ => none }
def shaNobodyRow : OpenClaim := { program := "ytbmbklbijnpdfaa", sum := "603989cfbdb7aeeb2f83f19ac3a7780dcbd4f9ccc970c65bd1c74d9010d5cf2c", func := "bailey/baileylaw03.ShaNobody", spec := "shaNobody", apart := false }
def ShaNobodySaid : Prop := shaNobodyRow.holds Try.pinned (OpenSpec.ofChange shaNobodySpec)

/-- ITS FALSE NEIGHBOUR: 'it returns false'. Refute it at one input. -/
def shaNobodyWrong : ChangeSpec := { name := "shaNobody", fn := fun _ => fun
  | [d] => { results := [.lit (.bool false)], args := [d] }
  | _ => none }
def ShaNobodyWrongFalsely : Prop := shaNobodyRow.holds Try.pinned (OpenSpec.ofChange shaNobodyWrong)

/-- 'baileylaw03.ShaParts': WHATEVER THE INPUT: true; the input reads as it did. -/
def shaPartsSpec : ChangeSpec := { name := "shaParts", fn := fun _ => fun
  | [d] => { results := [.lit (.bool true)], args := [d] }
  | _ => none }
def shaPartsRow : OpenClaim := { program := "ytbmbklbijnpdfaa", sum := "603989cfbdb7aeeb2f83f19ac3a7780dcbd4f9ccc970c65bd1c74d9010d5cf2c", func := "bailey/baileylaw03.ShaParts", spec := "shaParts", apart := false }
def ShaPartsSaid : Prop := shaPartsRow.holds Try.pinned (OpenSpec.ofChange shaPartsSpec)

/-- ITS FALSE NEIGHBOUR: 'it returns false'. Refute it at one input. -/
def shaPartsWrong : ChangeSpec := { name := "shaParts", fn := fun _ => fun
  | [d] => { results := [.lit (.bool false)], args := [d] }
  | _ => none }
def ShaPartsWrongFalsely : Prop := shaPartsRow.holds Try.pinned (OpenSpec.ofChange shaPartsWrong)

/-- 'baileylaw03.ShaSums': WHATEVER THE INPUT: true; the input reads as it did. -/
def shaSumsSpec : ChangeSpec := { name := "shaSums", fn := fun _ => fun
  | [d1, d2] => { results := [.lit (.bool true)], args := [d1, d2] }
  | _ => none }
def shaSumsRow : OpenClaim := { program := "ytbmbklbijnpdfaa", sum := "603989cfbdb7aeeb2f83f19ac3a7780dcbd4f9ccc970c65bd1c74d9010d5cf2c", func := "bailey/baileylaw03.ShaSums", spec := "shaSums", apart := false }
def ShaSumsSaid : Prop := shaSumsRow.holds Try.pinned (OpenSpec.ofChange shaSumsSpec)

/-- ITS FALSE NEIGHBOUR: 'it returns false'. Refute it at one input. -/
def shaSumsWrong : ChangeSpec := { name := "shaSums", fn := fun _ => fun
  | [d1, d2] => { results := [.lit (.bool false)], args := [d1, d2] }
  | _ => none }
def ShaSumsWrongFalsely : Prop := shaSumsRow.holds Try.pinned (OpenSpec.ofChange shaSumsWrong)

/-- 'baileylaw04.HmacTags': WHATEVER THE INPUT: true; the input reads as it did. -/
def hmacTagsSpec : ChangeSpec := { name := "hmacTags", fn := fun _ => fun
  | [d1, d2] => { results := [.lit (.bool true)], args := [d1, d2] }
  | _ => none }
def hmacTagsRow : OpenClaim := { program := "ytbmbklbijnpdfaa", sum := "603989cfbdb7aeeb2f83f19ac3a7780dcbd4f9ccc970c65bd1c74d9010d5cf2c", func := "bailey/baileylaw04.HmacTags", spec := "hmacTags", apart := false }
def HmacTagsSaid : Prop := hmacTagsRow.holds Try.pinned (OpenSpec.ofChange hmacTagsSpec)

/-- ITS FALSE NEIGHBOUR: 'it returns false'. Refute it at one input. -/
def hmacTagsWrong : ChangeSpec := { name := "hmacTags", fn := fun _ => fun
  | [d1, d2] => { results := [.lit (.bool false)], args := [d1, d2] }
  | _ => none }
def HmacTagsWrongFalsely : Prop := hmacTagsRow.holds Try.pinned (OpenSpec.ofChange hmacTagsWrong)

/-- 'baileylaw04.HmacPadded': WHATEVER THE INPUT: true; the input reads as it did. -/
def hmacPaddedSpec : ChangeSpec := { name := "hmacPadded", fn := fun _ => fun
  | [d1, d2, d3] => { results := [.lit (.bool true)], args := [d1, d2, d3] }
  | _ => none }
def hmacPaddedRow : OpenClaim := { program := "ytbmbklbijnpdfaa", sum := "603989cfbdb7aeeb2f83f19ac3a7780dcbd4f9ccc970c65bd1c74d9010d5cf2c", func := "bailey/baileylaw04.HmacPadded", spec := "hmacPadded", apart := false }
def HmacPaddedSaid : Prop := hmacPaddedRow.holds Try.pinned (OpenSpec.ofChange hmacPaddedSpec)

/-- ITS FALSE NEIGHBOUR: 'it returns false'. Refute it at one input. -/
def hmacPaddedWrong : ChangeSpec := { name := "hmacPadded", fn := fun _ => fun
  | [d1, d2, d3] => { results := [.lit (.bool false)], args := [d1, d2, d3] }
  | _ => none }
def HmacPaddedWrongFalsely : Prop := hmacPaddedRow.holds Try.pinned (OpenSpec.ofChange hmacPaddedWrong)

/-- 'baileylaw04.HmacEqual': WHATEVER THE INPUT: true; the input reads as it did. -/
def hmacEqualSpec : ChangeSpec := { name := "hmacEqual", fn := fun _ => fun
  | [d1, d2, d3, d4] => { results := [.lit (.bool true)], args := [d1, d2, d3, d4] }
  | _ => none }
def hmacEqualRow : OpenClaim := { program := "ytbmbklbijnpdfaa", sum := "603989cfbdb7aeeb2f83f19ac3a7780dcbd4f9ccc970c65bd1c74d9010d5cf2c", func := "bailey/baileylaw04.HmacEqual", spec := "hmacEqual", apart := false }
def HmacEqualSaid : Prop := hmacEqualRow.holds Try.pinned (OpenSpec.ofChange hmacEqualSpec)

/-- ITS FALSE NEIGHBOUR: 'it returns false'. Refute it at one input. -/
def hmacEqualWrong : ChangeSpec := { name := "hmacEqual", fn := fun _ => fun
  | [d1, d2, d3, d4] => { results := [.lit (.bool false)], args := [d1, d2, d3, d4] }
  | _ => none }
def HmacEqualWrongFalsely : Prop := hmacEqualRow.holds Try.pinned (OpenSpec.ofChange hmacEqualWrong)

/-- 'baileylaw04.HmacDerives': WHATEVER THE INPUT: true; the input reads as it did. -/
def hmacDerivesSpec : ChangeSpec := { name := "hmacDerives", fn := fun _ => fun
  | [d1, d2, d3] => { results := [.lit (.bool true)], args := [d1, d2, d3] }
  | _ => none }
def hmacDerivesRow : OpenClaim := { program := "ytbmbklbijnpdfaa", sum := "603989cfbdb7aeeb2f83f19ac3a7780dcbd4f9ccc970c65bd1c74d9010d5cf2c", func := "bailey/baileylaw04.HmacDerives", spec := "hmacDerives", apart := false }
def HmacDerivesSaid : Prop := hmacDerivesRow.holds Try.pinned (OpenSpec.ofChange hmacDerivesSpec)

/-- ITS FALSE NEIGHBOUR: 'it returns false'. Refute it at one input. -/
def hmacDerivesWrong : ChangeSpec := { name := "hmacDerives", fn := fun _ => fun
  | [d1, d2, d3] => { results := [.lit (.bool false)], args := [d1, d2, d3] }
  | _ => none }
def HmacDerivesWrongFalsely : Prop := hmacDerivesRow.holds Try.pinned (OpenSpec.ofChange hmacDerivesWrong)

/-- 'baileylaw04.HmacOpens': WHATEVER THE INPUT: true; the input reads as it did. -/
def hmacOpensSpec : ChangeSpec := { name := "hmacOpens", fn := fun _ => fun
  | [d1, d2, d3] => { results := [.lit (.bool true)], args := [d1, d2, d3] }
  | _ => none }
def hmacOpensRow : OpenClaim := { program := "ytbmbklbijnpdfaa", sum := "603989cfbdb7aeeb2f83f19ac3a7780dcbd4f9ccc970c65bd1c74d9010d5cf2c", func := "bailey/baileylaw04.HmacOpens", spec := "hmacOpens", apart := false }
def HmacOpensSaid : Prop := hmacOpensRow.holds Try.pinned (OpenSpec.ofChange hmacOpensSpec)

/-- ITS FALSE NEIGHBOUR: 'it returns false'. Refute it at one input. -/
def hmacOpensWrong : ChangeSpec := { name := "hmacOpens", fn := fun _ => fun
  | [d1, d2, d3] => { results := [.lit (.bool false)], args := [d1, d2, d3] }
  | _ => none }
def HmacOpensWrongFalsely : Prop := hmacOpensRow.holds Try.pinned (OpenSpec.ofChange hmacOpensWrong)

/- THE SECOND FORM. 'bulk': how many values and letters a reading holds, each counted each time it is reached (what is shared counts as often as it is met; a slice's spare places count too). A statement '..UptoSaid' is the law's where the arguments, and the package variables that the reading takes, are together of bulk at most 1048576: NARROWER than '..Said'. Prove '..Said' where nothing that the law and all that it calls make is longer than what came in: it says more and counts as full. Else prove '..UptoSaid'. A law counts once. -/
mutual
def uptoBulk {H : Type} : DataW H → Nat
  | .lit (.string bytes) => bytes.length + 1
  | .lit _ => 1
  | .nil => 1
  | .ptr d => uptoBulk d + 1
  | .slice elems spare => uptoBulkAll elems + uptoBulkAll spare + 1
  | .agg parts => uptoBulkAll parts + 1
  | .iface _ d => uptoBulk d + 1
  | .map entries => uptoBulkEntries entries + 1
  | .held _ => 1
def uptoBulkAll {H : Type} : List (DataW H) → Nat
  | [] => 0
  | d :: r => uptoBulk d + uptoBulkAll r
def uptoBulkEntries {H : Type} : List (Lit × DataW H) → Nat
  | [] => 0
  | x :: r => uptoBulkEntry x + uptoBulkEntries r
def uptoBulkEntry {H : Type} : Lit × DataW H → Nat
  | (.string bytes, d) => bytes.length + uptoBulk d + 1
  | (_, d) => uptoBulk d + 1
 end
def uptoSmall : (H : Type) → List (DataW H) → Bool := fun _ ds => decide (uptoBulkAll ds ≤ 1048576)
def OpenSpec.upto (s : _root_.Go.ChangeSpec) : _root_.Go.OpenSpec := { _root_.Go.OpenSpec.ofChange s with cond := some uptoSmall }

/-- 'baileylaw03.ShaBlocks', WHERE WHAT IT READS IS OF BULK AT MOST 1048576: true; the input reads as it did. -/
def shaBlocksUptoRow : OpenClaim := { program := "ytbmbklbijnpdfaa", sum := "603989cfbdb7aeeb2f83f19ac3a7780dcbd4f9ccc970c65bd1c74d9010d5cf2c", func := "bailey/baileylaw03.ShaBlocks", spec := "shaBlocks", apart := false, narrowed := true }
def ShaBlocksUptoSaid : Prop := shaBlocksUptoRow.holds Try.pinned (OpenSpec.upto shaBlocksSpec)

/-- 'baileylaw03.ShaPads', WHERE WHAT IT READS IS OF BULK AT MOST 1048576: true; the input reads as it did. -/
def shaPadsUptoRow : OpenClaim := { program := "ytbmbklbijnpdfaa", sum := "603989cfbdb7aeeb2f83f19ac3a7780dcbd4f9ccc970c65bd1c74d9010d5cf2c", func := "bailey/baileylaw03.ShaPads", spec := "shaPads", apart := false, narrowed := true }
def ShaPadsUptoSaid : Prop := shaPadsUptoRow.holds Try.pinned (OpenSpec.upto shaPadsSpec)

/-- 'baileylaw03.ShaNobody', WHERE WHAT IT READS IS OF BULK AT MOST 1048576: true; the input reads as it did. -/
def shaNobodyUptoRow : OpenClaim := { program := "ytbmbklbijnpdfaa", sum := "603989cfbdb7aeeb2f83f19ac3a7780dcbd4f9ccc970c65bd1c74d9010d5cf2c", func := "bailey/baileylaw03.ShaNobody", spec := "shaNobody", apart := false, narrowed := true }
def ShaNobodyUptoSaid : Prop := shaNobodyUptoRow.holds Try.pinned (OpenSpec.upto shaNobodySpec)

/-- 'baileylaw03.ShaParts', WHERE WHAT IT READS IS OF BULK AT MOST 1048576: true; the input reads as it did. -/
def shaPartsUptoRow : OpenClaim := { program := "ytbmbklbijnpdfaa", sum := "603989cfbdb7aeeb2f83f19ac3a7780dcbd4f9ccc970c65bd1c74d9010d5cf2c", func := "bailey/baileylaw03.ShaParts", spec := "shaParts", apart := false, narrowed := true }
def ShaPartsUptoSaid : Prop := shaPartsUptoRow.holds Try.pinned (OpenSpec.upto shaPartsSpec)

/-- 'baileylaw03.ShaSums', WHERE WHAT IT READS IS OF BULK AT MOST 1048576: true; the input reads as it did. -/
def shaSumsUptoRow : OpenClaim := { program := "ytbmbklbijnpdfaa", sum := "603989cfbdb7aeeb2f83f19ac3a7780dcbd4f9ccc970c65bd1c74d9010d5cf2c", func := "bailey/baileylaw03.ShaSums", spec := "shaSums", apart := false, narrowed := true }
def ShaSumsUptoSaid : Prop := shaSumsUptoRow.holds Try.pinned (OpenSpec.upto shaSumsSpec)

/-- 'baileylaw04.HmacTags', WHERE WHAT IT READS IS OF BULK AT MOST 1048576: true; the input reads as it did. -/
def hmacTagsUptoRow : OpenClaim := { program := "ytbmbklbijnpdfaa", sum := "603989cfbdb7aeeb2f83f19ac3a7780dcbd4f9ccc970c65bd1c74d9010d5cf2c", func := "bailey/baileylaw04.HmacTags", spec := "hmacTags", apart := false, narrowed := true }
def HmacTagsUptoSaid : Prop := hmacTagsUptoRow.holds Try.pinned (OpenSpec.upto hmacTagsSpec)

/-- 'baileylaw04.HmacPadded', WHERE WHAT IT READS IS OF BULK AT MOST 1048576: true; the input reads as it did. -/
def hmacPaddedUptoRow : OpenClaim := { program := "ytbmbklbijnpdfaa", sum := "603989cfbdb7aeeb2f83f19ac3a7780dcbd4f9ccc970c65bd1c74d9010d5cf2c", func := "bailey/baileylaw04.HmacPadded", spec := "hmacPadded", apart := false, narrowed := true }
def HmacPaddedUptoSaid : Prop := hmacPaddedUptoRow.holds Try.pinned (OpenSpec.upto hmacPaddedSpec)

/-- 'baileylaw04.HmacEqual', WHERE WHAT IT READS IS OF BULK AT MOST 1048576: true; the input reads as it did. -/
def hmacEqualUptoRow : OpenClaim := { program := "ytbmbklbijnpdfaa", sum := "603989cfbdb7aeeb2f83f19ac3a7780dcbd4f9ccc970c65bd1c74d9010d5cf2c", func := "bailey/baileylaw04.HmacEqual", spec := "hmacEqual", apart := false, narrowed := true }
def HmacEqualUptoSaid : Prop := hmacEqualUptoRow.holds Try.pinned (OpenSpec.upto hmacEqualSpec)

/-- 'baileylaw04.HmacDerives', WHERE WHAT IT READS IS OF BULK AT MOST 1048576: true; the input reads as it did. -/
def hmacDerivesUptoRow : OpenClaim := { program := "ytbmbklbijnpdfaa", sum := "603989cfbdb7aeeb2f83f19ac3a7780dcbd4f9ccc970c65bd1c74d9010d5cf2c", func := "bailey/baileylaw04.HmacDerives", spec := "hmacDerives", apart := false, narrowed := true }
def HmacDerivesUptoSaid : Prop := hmacDerivesUptoRow.holds Try.pinned (OpenSpec.upto hmacDerivesSpec)

/-- 'baileylaw04.HmacOpens', WHERE WHAT IT READS IS OF BULK AT MOST 1048576: true; the input reads as it did. -/
def hmacOpensUptoRow : OpenClaim := { program := "ytbmbklbijnpdfaa", sum := "603989cfbdb7aeeb2f83f19ac3a7780dcbd4f9ccc970c65bd1c74d9010d5cf2c", func := "bailey/baileylaw04.HmacOpens", spec := "hmacOpens", apart := false, narrowed := true }
def HmacOpensUptoSaid : Prop := hmacOpensUptoRow.holds Try.pinned (OpenSpec.upto hmacOpensSpec)

end Rows
end Go.Proofs.Ytbmbklbijnpdfaa

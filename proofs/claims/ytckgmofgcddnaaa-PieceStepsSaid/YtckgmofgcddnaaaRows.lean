/-
  No cell of these rows narrows 'for every input' (looked for: loops, veiled, ifaces, maps, wideKeys, modest, calm, conditions, laid).
  DERIVED. THE GIVEN ROWS OF THIS SEAT. 8 by the template 'for every input the law returns true; each argument reads behind the call as it read before'; 0 by the template 'total and deterministic' (their statements: YtckgmofgcddnaaaTotals.lean).
  GIVEN WITH THE SEED: the statements are not yours to turn. If you find one false, say at which input.
  Laid BY PROGRAM, IN A SANDBOX (cutbox-rows.mjs): the forced cells as the released guide's own fill.sh prints them over the translation 1db730c035cc57cc… (all of the seat's roots in one cut). By AI agents, Wed Nov 11 2026. No macro, syntax, notation, axiom, sorry.
-/
import Derived.Test.YtckgmofgcddnaaaChecked
import GoSem.Claim
import GoSem.ClaimJoined
import GoSem.ClaimMapViews
import Derived.JoinedTies
import Derived.KernelRfl
namespace Go.Proofs.Ytckgmofgcddnaaa
/- THE CELL 'sum', in the pinned program and in every row, IS THE sha256 OF THE DUMP (.gsa) THAT YtckgmofgcddnaaaProg.lean LOADS. Nothing in Lean hashes anything: it is a label: what it is worth is what the hold of that sum in a sandbox is worth. -/
noncomputable def Try.pinned : Pinned := { name := "ytckgmofgcddnaaa", sum := "1db730c035cc57cc0ae0467e072900680a046646410cfda39354205466586aeb", checked := Try.checked }
namespace Rows
def none {H : Type} : Left H := { results := [], args := [] }

/-- 'calamuslaw02.CrcSums': WHATEVER THE INPUT: true; the input reads as it did. -/
def crcSumsSpec : ChangeSpec := { name := "crcSums", fn := fun _ => fun
  | [d1, d2] => { results := [.lit (.bool true)], args := [d1, d2] }
  | _ => none }
def crcSumsRow : OpenClaim := { program := "ytckgmofgcddnaaa", sum := "1db730c035cc57cc0ae0467e072900680a046646410cfda39354205466586aeb", func := "calamus/calamuslaw02.CrcSums", spec := "crcSums", apart := false }
def CrcSumsSaid : Prop := crcSumsRow.holds Try.pinned (OpenSpec.ofChange crcSumsSpec)

/-- ITS FALSE NEIGHBOUR: 'it returns false'. Refute it at one input. -/
def crcSumsWrong : ChangeSpec := { name := "crcSums", fn := fun _ => fun
  | [d1, d2] => { results := [.lit (.bool false)], args := [d1, d2] }
  | _ => none }
def CrcSumsWrongFalsely : Prop := crcSumsRow.holds Try.pinned (OpenSpec.ofChange crcSumsWrong)

/-- 'calamuslaw02.CrcOpens': WHATEVER THE INPUT: true; the input reads as it did. -/
def crcOpensSpec : ChangeSpec := { name := "crcOpens", fn := fun _ => fun
  | [d] => { results := [.lit (.bool true)], args := [d] }
  | _ => none }
def crcOpensRow : OpenClaim := { program := "ytckgmofgcddnaaa", sum := "1db730c035cc57cc0ae0467e072900680a046646410cfda39354205466586aeb", func := "calamus/calamuslaw02.CrcOpens", spec := "crcOpens", apart := false }
def CrcOpensSaid : Prop := crcOpensRow.holds Try.pinned (OpenSpec.ofChange crcOpensSpec)

/-- ITS FALSE NEIGHBOUR: 'it returns false'. Refute it at one input. -/
def crcOpensWrong : ChangeSpec := { name := "crcOpens", fn := fun _ => fun
  | [d] => { results := [.lit (.bool false)], args := [d] }
  | _ => none }
def CrcOpensWrongFalsely : Prop := crcOpensRow.holds Try.pinned (OpenSpec.ofChange crcOpensWrong)

/-- 'calamuslaw02.CrcBurst': WHATEVER THE INPUT: true; the input reads as it did. -/
def crcBurstSpec : ChangeSpec := { name := "crcBurst", fn := fun _ => fun
  | [d1, d2, d3] => { results := [.lit (.bool true)], args := [d1, d2, d3] }
  | _ => none }
def crcBurstRow : OpenClaim := { program := "ytckgmofgcddnaaa", sum := "1db730c035cc57cc0ae0467e072900680a046646410cfda39354205466586aeb", func := "calamus/calamuslaw02.CrcBurst", spec := "crcBurst", apart := false }
def CrcBurstSaid : Prop := crcBurstRow.holds Try.pinned (OpenSpec.ofChange crcBurstSpec)

/-- ITS FALSE NEIGHBOUR: 'it returns false'. Refute it at one input. -/
def crcBurstWrong : ChangeSpec := { name := "crcBurst", fn := fun _ => fun
  | [d1, d2, d3] => { results := [.lit (.bool false)], args := [d1, d2, d3] }
  | _ => none }
def CrcBurstWrongFalsely : Prop := crcBurstRow.holds Try.pinned (OpenSpec.ofChange crcBurstWrong)

/-- 'calamuslaw02.CrcPieces': WHATEVER THE INPUT: true; the input reads as it did. -/
def crcPiecesSpec : ChangeSpec := { name := "crcPieces", fn := fun _ => fun
  | [d] => { results := [.lit (.bool true)], args := [d] }
  | _ => none }
def crcPiecesRow : OpenClaim := { program := "ytckgmofgcddnaaa", sum := "1db730c035cc57cc0ae0467e072900680a046646410cfda39354205466586aeb", func := "calamus/calamuslaw02.CrcPieces", spec := "crcPieces", apart := false }
def CrcPiecesSaid : Prop := crcPiecesRow.holds Try.pinned (OpenSpec.ofChange crcPiecesSpec)

/-- ITS FALSE NEIGHBOUR: 'it returns false'. Refute it at one input. -/
def crcPiecesWrong : ChangeSpec := { name := "crcPieces", fn := fun _ => fun
  | [d] => { results := [.lit (.bool false)], args := [d] }
  | _ => none }
def CrcPiecesWrongFalsely : Prop := crcPiecesRow.holds Try.pinned (OpenSpec.ofChange crcPiecesWrong)

/-- 'calamuslaw06.PieceSlices': WHATEVER THE INPUT: true; the input reads as it did. -/
def pieceSlicesSpec : ChangeSpec := { name := "pieceSlices", fn := fun _ => fun
  | [d1, d2, d3, d4] => { results := [.lit (.bool true)], args := [d1, d2, d3, d4] }
  | _ => none }
def pieceSlicesRow : OpenClaim := { program := "ytckgmofgcddnaaa", sum := "1db730c035cc57cc0ae0467e072900680a046646410cfda39354205466586aeb", func := "calamus/calamuslaw06.PieceSlices", spec := "pieceSlices", inPlace := ["internal/abi.NoEscape"], apart := false }
def PieceSlicesSaid : Prop := pieceSlicesRow.holds Try.pinned (OpenSpec.ofChange pieceSlicesSpec)

/-- ITS FALSE NEIGHBOUR: 'it returns false'. Refute it at one input. -/
def pieceSlicesWrong : ChangeSpec := { name := "pieceSlices", fn := fun _ => fun
  | [d1, d2, d3, d4] => { results := [.lit (.bool false)], args := [d1, d2, d3, d4] }
  | _ => none }
def PieceSlicesWrongFalsely : Prop := pieceSlicesRow.holds Try.pinned (OpenSpec.ofChange pieceSlicesWrong)

/-- 'calamuslaw06.PieceCounts': WHATEVER THE INPUT: true; the input reads as it did. -/
def pieceCountsSpec : ChangeSpec := { name := "pieceCounts", fn := fun _ => fun
  | [d1, d2] => { results := [.lit (.bool true)], args := [d1, d2] }
  | _ => none }
def pieceCountsRow : OpenClaim := { program := "ytckgmofgcddnaaa", sum := "1db730c035cc57cc0ae0467e072900680a046646410cfda39354205466586aeb", func := "calamus/calamuslaw06.PieceCounts", spec := "pieceCounts", inPlace := ["internal/abi.NoEscape"], apart := false }
def PieceCountsSaid : Prop := pieceCountsRow.holds Try.pinned (OpenSpec.ofChange pieceCountsSpec)

/-- ITS FALSE NEIGHBOUR: 'it returns false'. Refute it at one input. -/
def pieceCountsWrong : ChangeSpec := { name := "pieceCounts", fn := fun _ => fun
  | [d1, d2] => { results := [.lit (.bool false)], args := [d1, d2] }
  | _ => none }
def PieceCountsWrongFalsely : Prop := pieceCountsRow.holds Try.pinned (OpenSpec.ofChange pieceCountsWrong)

/-- 'calamuslaw06.PieceSteps': WHATEVER THE INPUT: true; the input reads as it did. -/
def pieceStepsSpec : ChangeSpec := { name := "pieceSteps", fn := fun _ => fun
  | [d1, d2] => { results := [.lit (.bool true)], args := [d1, d2] }
  | _ => none }
def pieceStepsRow : OpenClaim := { program := "ytckgmofgcddnaaa", sum := "1db730c035cc57cc0ae0467e072900680a046646410cfda39354205466586aeb", func := "calamus/calamuslaw06.PieceSteps", spec := "pieceSteps", inPlace := ["internal/abi.NoEscape"], apart := false }
def PieceStepsSaid : Prop := pieceStepsRow.holds Try.pinned (OpenSpec.ofChange pieceStepsSpec)

/-- ITS FALSE NEIGHBOUR: 'it returns false'. Refute it at one input. -/
def pieceStepsWrong : ChangeSpec := { name := "pieceSteps", fn := fun _ => fun
  | [d1, d2] => { results := [.lit (.bool false)], args := [d1, d2] }
  | _ => none }
def PieceStepsWrongFalsely : Prop := pieceStepsRow.holds Try.pinned (OpenSpec.ofChange pieceStepsWrong)

/-- 'calamuslaw06.PieceNobody': WHATEVER THE INPUT: true; the input reads as it did. -/
def pieceNobodySpec : ChangeSpec := { name := "pieceNobody", fn := fun _ => fun
  | [d1, d2] => { results := [.lit (.bool true)], args := [d1, d2] }
  | _ => none }
def pieceNobodyRow : OpenClaim := { program := "ytckgmofgcddnaaa", sum := "1db730c035cc57cc0ae0467e072900680a046646410cfda39354205466586aeb", func := "calamus/calamuslaw06.PieceNobody", spec := "pieceNobody", inPlace := ["internal/abi.NoEscape"], apart := false }
def PieceNobodySaid : Prop := pieceNobodyRow.holds Try.pinned (OpenSpec.ofChange pieceNobodySpec)

/-- ITS FALSE NEIGHBOUR: 'it returns false'. Refute it at one input. -/
def pieceNobodyWrong : ChangeSpec := { name := "pieceNobody", fn := fun _ => fun
  | [d1, d2] => { results := [.lit (.bool false)], args := [d1, d2] }
  | _ => none }
def PieceNobodyWrongFalsely : Prop := pieceNobodyRow.holds Try.pinned (OpenSpec.ofChange pieceNobodyWrong)

/- THE SECOND FORM. 'bulk': how many values and letters a reading holds, each counted each time it is reached (what is shared counts as often as it is met; a slice's spare places count too). A statement '..UptoSaid' is the law's where the arguments, and the package variables that the reading takes, are together of bulk at most 1048576: NARROWER than '..Said'. Prove '..Said' where nothing that the law and all that it calls make is longer than what came in: it says more and counts as full. Else prove '..UptoSaid'. A law counts once. -/
mutual
def uptoBulk {H : Type} : DataW H → Nat
  | .lit (.string bytes) => bytes.length + 1
  | .lit _ => 1
  | .nil => 1
  | .ptr d => uptoBulk d + 1
  | .slice elems spare => uptoBulkAll elems + uptoBulkAll spare + 1
  | .agg parts => uptoBulkAll parts + 1
  | .iface _ d => uptoBulk d + 1
  | .map entries => uptoBulkEntries entries + 1
  | .held _ => 1
def uptoBulkAll {H : Type} : List (DataW H) → Nat
  | [] => 0
  | d :: r => uptoBulk d + uptoBulkAll r
def uptoBulkEntries {H : Type} : List (Lit × DataW H) → Nat
  | [] => 0
  | x :: r => uptoBulkEntry x + uptoBulkEntries r
def uptoBulkEntry {H : Type} : Lit × DataW H → Nat
  | (.string bytes, d) => bytes.length + uptoBulk d + 1
  | (_, d) => uptoBulk d + 1
 end
def uptoSmall : (H : Type) → List (DataW H) → Bool := fun _ ds => decide (uptoBulkAll ds ≤ 1048576)
def OpenSpec.upto (s : _root_.Go.ChangeSpec) : _root_.Go.OpenSpec := { _root_.Go.OpenSpec.ofChange s with cond := some uptoSmall }

/-- 'calamuslaw02.CrcSums', WHERE WHAT IT READS IS OF BULK AT MOST 1048576: true; the input reads as it did. -/
def crcSumsUptoRow : OpenClaim := { program := "ytckgmofgcddnaaa", sum := "1db730c035cc57cc0ae0467e072900680a046646410cfda39354205466586aeb", func := "calamus/calamuslaw02.CrcSums", spec := "crcSums", apart := false, narrowed := true }
def CrcSumsUptoSaid : Prop := crcSumsUptoRow.holds Try.pinned (OpenSpec.upto crcSumsSpec)

/-- 'calamuslaw02.CrcOpens', WHERE WHAT IT READS IS OF BULK AT MOST 1048576: true; the input reads as it did. -/
def crcOpensUptoRow : OpenClaim := { program := "ytckgmofgcddnaaa", sum := "1db730c035cc57cc0ae0467e072900680a046646410cfda39354205466586aeb", func := "calamus/calamuslaw02.CrcOpens", spec := "crcOpens", apart := false, narrowed := true }
def CrcOpensUptoSaid : Prop := crcOpensUptoRow.holds Try.pinned (OpenSpec.upto crcOpensSpec)

/-- 'calamuslaw02.CrcBurst', WHERE WHAT IT READS IS OF BULK AT MOST 1048576: true; the input reads as it did. -/
def crcBurstUptoRow : OpenClaim := { program := "ytckgmofgcddnaaa", sum := "1db730c035cc57cc0ae0467e072900680a046646410cfda39354205466586aeb", func := "calamus/calamuslaw02.CrcBurst", spec := "crcBurst", apart := false, narrowed := true }
def CrcBurstUptoSaid : Prop := crcBurstUptoRow.holds Try.pinned (OpenSpec.upto crcBurstSpec)

/-- 'calamuslaw02.CrcPieces', WHERE WHAT IT READS IS OF BULK AT MOST 1048576: true; the input reads as it did. -/
def crcPiecesUptoRow : OpenClaim := { program := "ytckgmofgcddnaaa", sum := "1db730c035cc57cc0ae0467e072900680a046646410cfda39354205466586aeb", func := "calamus/calamuslaw02.CrcPieces", spec := "crcPieces", apart := false, narrowed := true }
def CrcPiecesUptoSaid : Prop := crcPiecesUptoRow.holds Try.pinned (OpenSpec.upto crcPiecesSpec)

/-- 'calamuslaw06.PieceSlices', WHERE WHAT IT READS IS OF BULK AT MOST 1048576: true; the input reads as it did. -/
def pieceSlicesUptoRow : OpenClaim := { program := "ytckgmofgcddnaaa", sum := "1db730c035cc57cc0ae0467e072900680a046646410cfda39354205466586aeb", func := "calamus/calamuslaw06.PieceSlices", spec := "pieceSlices", inPlace := ["internal/abi.NoEscape"], apart := false, narrowed := true }
def PieceSlicesUptoSaid : Prop := pieceSlicesUptoRow.holds Try.pinned (OpenSpec.upto pieceSlicesSpec)

/-- 'calamuslaw06.PieceCounts', WHERE WHAT IT READS IS OF BULK AT MOST 1048576: true; the input reads as it did. -/
def pieceCountsUptoRow : OpenClaim := { program := "ytckgmofgcddnaaa", sum := "1db730c035cc57cc0ae0467e072900680a046646410cfda39354205466586aeb", func := "calamus/calamuslaw06.PieceCounts", spec := "pieceCounts", inPlace := ["internal/abi.NoEscape"], apart := false, narrowed := true }
def PieceCountsUptoSaid : Prop := pieceCountsUptoRow.holds Try.pinned (OpenSpec.upto pieceCountsSpec)

/-- 'calamuslaw06.PieceSteps', WHERE WHAT IT READS IS OF BULK AT MOST 1048576: true; the input reads as it did. -/
def pieceStepsUptoRow : OpenClaim := { program := "ytckgmofgcddnaaa", sum := "1db730c035cc57cc0ae0467e072900680a046646410cfda39354205466586aeb", func := "calamus/calamuslaw06.PieceSteps", spec := "pieceSteps", inPlace := ["internal/abi.NoEscape"], apart := false, narrowed := true }
def PieceStepsUptoSaid : Prop := pieceStepsUptoRow.holds Try.pinned (OpenSpec.upto pieceStepsSpec)

/-- 'calamuslaw06.PieceNobody', WHERE WHAT IT READS IS OF BULK AT MOST 1048576: true; the input reads as it did. -/
def pieceNobodyUptoRow : OpenClaim := { program := "ytckgmofgcddnaaa", sum := "1db730c035cc57cc0ae0467e072900680a046646410cfda39354205466586aeb", func := "calamus/calamuslaw06.PieceNobody", spec := "pieceNobody", inPlace := ["internal/abi.NoEscape"], apart := false, narrowed := true }
def PieceNobodyUptoSaid : Prop := pieceNobodyUptoRow.holds Try.pinned (OpenSpec.upto pieceNobodySpec)

end Rows
end Go.Proofs.Ytckgmofgcddnaaa

/-
  No cell of these rows narrows 'for every input' (looked for: loops, veiled, ifaces, maps, wideKeys, modest, calm, conditions, laid).
  DERIVED. THE GIVEN ROWS OF THIS SEAT. 10 by the template 'for every input the law returns true; each argument reads behind the call as it read before'; 0 by the template 'total and deterministic' (their statements: YtlljeghlfijdnaaTotals.lean).
  GIVEN WITH THE SEED: the statements are not yours to turn. If you find one false, say at which input.
  Laid BY PROGRAM, IN A SANDBOX (cutbox-rows.mjs): the forced cells as the released guide's own fill.sh prints them over the translation 4aa3234b0063e1d2… (all of the seat's roots in one cut). By AI agents, Wed Nov 11 2026. No macro, syntax, notation, axiom, sorry.
-/
import Derived.Test.YtlljeghlfijdnaaChecked
import GoSem.Claim
import GoSem.ClaimJoined
import GoSem.ClaimMapViews
import Derived.JoinedTies
import Derived.KernelRfl
namespace Go.Proofs.Ytlljeghlfijdnaa
/- THE CELL 'sum', in the pinned program and in every row, IS THE sha256 OF THE DUMP (.gsa) THAT YtlljeghlfijdnaaProg.lean LOADS. Nothing in Lean hashes anything: it is a label: what it is worth is what the hold of that sum in a sandbox is worth. -/
noncomputable def Try.pinned : Pinned := { name := "ytlljeghlfijdnaa", sum := "4aa3234b0063e1d2ceb618f000b1d76868e1873fa50aa6093e3132c4d8d2ea3d", checked := Try.checked }
namespace Rows
def none {H : Type} : Left H := { results := [], args := [] }

/-- 'entrepotlaw01.CellsNumbers': WHATEVER THE INPUT: true; the input reads as it did. -/
def cellsNumbersSpec : ChangeSpec := { name := "cellsNumbers", fn := fun _ => fun
  | [d1, d2] => { results := [.lit (.bool true)], args := [d1, d2] }
  | _ => none }
def cellsNumbersRow : OpenClaim := { program := "ytlljeghlfijdnaa", sum := "4aa3234b0063e1d2ceb618f000b1d76868e1873fa50aa6093e3132c4d8d2ea3d", func := "entrepot/entrepotlaw01.CellsNumbers", spec := "cellsNumbers", apart := false }
def CellsNumbersSaid : Prop := cellsNumbersRow.holds Try.pinned (OpenSpec.ofChange cellsNumbersSpec)

/-- ITS FALSE NEIGHBOUR: 'it returns false'. Refute it at one input. -/
def cellsNumbersWrong : ChangeSpec := { name := "cellsNumbers", fn := fun _ => fun
  | [d1, d2] => { results := [.lit (.bool false)], args := [d1, d2] }
  | _ => none }
def CellsNumbersWrongFalsely : Prop := cellsNumbersRow.holds Try.pinned (OpenSpec.ofChange cellsNumbersWrong)

/-- 'entrepotlaw01.CellsFirsts': WHATEVER THE INPUT: true; the input reads as it did. -/
def cellsFirstsSpec : ChangeSpec := { name := "cellsFirsts", fn := fun _ => fun
  | [d] => { results := [.lit (.bool true)], args := [d] }
  | _ => none }
def cellsFirstsRow : OpenClaim := { program := "ytlljeghlfijdnaa", sum := "4aa3234b0063e1d2ceb618f000b1d76868e1873fa50aa6093e3132c4d8d2ea3d", func := "entrepot/entrepotlaw01.CellsFirsts", spec := "cellsFirsts", apart := false }
def CellsFirstsSaid : Prop := cellsFirstsRow.holds Try.pinned (OpenSpec.ofChange cellsFirstsSpec)

/-- ITS FALSE NEIGHBOUR: 'it returns false'. Refute it at one input. -/
def cellsFirstsWrong : ChangeSpec := { name := "cellsFirsts", fn := fun _ => fun
  | [d] => { results := [.lit (.bool false)], args := [d] }
  | _ => none }
def CellsFirstsWrongFalsely : Prop := cellsFirstsRow.holds Try.pinned (OpenSpec.ofChange cellsFirstsWrong)

/-- 'entrepotlaw01.CellsApart': WHATEVER THE INPUT: true; the input reads as it did. -/
def cellsApartSpec : ChangeSpec := { name := "cellsApart", fn := fun _ => fun
  | [d1, d2] => { results := [.lit (.bool true)], args := [d1, d2] }
  | _ => none }
def cellsApartRow : OpenClaim := { program := "ytlljeghlfijdnaa", sum := "4aa3234b0063e1d2ceb618f000b1d76868e1873fa50aa6093e3132c4d8d2ea3d", func := "entrepot/entrepotlaw01.CellsApart", spec := "cellsApart", apart := false }
def CellsApartSaid : Prop := cellsApartRow.holds Try.pinned (OpenSpec.ofChange cellsApartSpec)

/-- ITS FALSE NEIGHBOUR: 'it returns false'. Refute it at one input. -/
def cellsApartWrong : ChangeSpec := { name := "cellsApart", fn := fun _ => fun
  | [d1, d2] => { results := [.lit (.bool false)], args := [d1, d2] }
  | _ => none }
def CellsApartWrongFalsely : Prop := cellsApartRow.holds Try.pinned (OpenSpec.ofChange cellsApartWrong)

/-- 'entrepotlaw01.CellsMakes': WHATEVER THE INPUT: true; the input reads as it did. -/
def cellsMakesSpec : ChangeSpec := { name := "cellsMakes", fn := fun _ => fun
  | [d] => { results := [.lit (.bool true)], args := [d] }
  | _ => none }
def cellsMakesRow : OpenClaim := { program := "ytlljeghlfijdnaa", sum := "4aa3234b0063e1d2ceb618f000b1d76868e1873fa50aa6093e3132c4d8d2ea3d", func := "entrepot/entrepotlaw01.CellsMakes", spec := "cellsMakes", apart := false }
def CellsMakesSaid : Prop := cellsMakesRow.holds Try.pinned (OpenSpec.ofChange cellsMakesSpec)

/-- ITS FALSE NEIGHBOUR: 'it returns false'. Refute it at one input. -/
def cellsMakesWrong : ChangeSpec := { name := "cellsMakes", fn := fun _ => fun
  | [d] => { results := [.lit (.bool false)], args := [d] }
  | _ => none }
def CellsMakesWrongFalsely : Prop := cellsMakesRow.holds Try.pinned (OpenSpec.ofChange cellsMakesWrong)

/-- 'entrepotlaw01.CellsBack': WHATEVER THE INPUT: true; the input reads as it did. -/
def cellsBackSpec : ChangeSpec := { name := "cellsBack", fn := fun _ => fun
  | [d] => { results := [.lit (.bool true)], args := [d] }
  | _ => none }
def cellsBackRow : OpenClaim := { program := "ytlljeghlfijdnaa", sum := "4aa3234b0063e1d2ceb618f000b1d76868e1873fa50aa6093e3132c4d8d2ea3d", func := "entrepot/entrepotlaw01.CellsBack", spec := "cellsBack", apart := false }
def CellsBackSaid : Prop := cellsBackRow.holds Try.pinned (OpenSpec.ofChange cellsBackSpec)

/-- ITS FALSE NEIGHBOUR: 'it returns false'. Refute it at one input. -/
def cellsBackWrong : ChangeSpec := { name := "cellsBack", fn := fun _ => fun
  | [d] => { results := [.lit (.bool false)], args := [d] }
  | _ => none }
def CellsBackWrongFalsely : Prop := cellsBackRow.holds Try.pinned (OpenSpec.ofChange cellsBackWrong)

/-- 'entrepotlaw01.CellsTakes': WHATEVER THE INPUT: true; the input reads as it did. -/
def cellsTakesSpec : ChangeSpec := { name := "cellsTakes", fn := fun _ => fun
  | [d1, d2] => { results := [.lit (.bool true)], args := [d1, d2] }
  | _ => none }
def cellsTakesRow : OpenClaim := { program := "ytlljeghlfijdnaa", sum := "4aa3234b0063e1d2ceb618f000b1d76868e1873fa50aa6093e3132c4d8d2ea3d", func := "entrepot/entrepotlaw01.CellsTakes", spec := "cellsTakes", apart := false }
def CellsTakesSaid : Prop := cellsTakesRow.holds Try.pinned (OpenSpec.ofChange cellsTakesSpec)

/-- ITS FALSE NEIGHBOUR: 'it returns false'. Refute it at one input. -/
def cellsTakesWrong : ChangeSpec := { name := "cellsTakes", fn := fun _ => fun
  | [d1, d2] => { results := [.lit (.bool false)], args := [d1, d2] }
  | _ => none }
def CellsTakesWrongFalsely : Prop := cellsTakesRow.holds Try.pinned (OpenSpec.ofChange cellsTakesWrong)

/-- 'entrepotlaw01.CellsNobody': WHATEVER THE INPUT: true; the input reads as it did. -/
def cellsNobodySpec : ChangeSpec := { name := "cellsNobody", fn := fun _ => fun
  | [d] => { results := [.lit (.bool true)], args := [d] }
  | _ => none }
def cellsNobodyRow : OpenClaim := { program := "ytlljeghlfijdnaa", sum := "4aa3234b0063e1d2ceb618f000b1d76868e1873fa50aa6093e3132c4d8d2ea3d", func := "entrepot/entrepotlaw01.CellsNobody", spec := "cellsNobody", apart := false }
def CellsNobodySaid : Prop := cellsNobodyRow.holds Try.pinned (OpenSpec.ofChange cellsNobodySpec)

/-- ITS FALSE NEIGHBOUR: 'it returns false'. Refute it at one input. -/
def cellsNobodyWrong : ChangeSpec := { name := "cellsNobody", fn := fun _ => fun
  | [d] => { results := [.lit (.bool false)], args := [d] }
  | _ => none }
def CellsNobodyWrongFalsely : Prop := cellsNobodyRow.holds Try.pinned (OpenSpec.ofChange cellsNobodyWrong)

/-- 'entrepotlaw01.CellsJoins': WHATEVER THE INPUT: true; the input reads as it did. -/
def cellsJoinsSpec : ChangeSpec := { name := "cellsJoins", fn := fun _ => fun
  | [d] => { results := [.lit (.bool true)], args := [d] }
  | _ => none }
def cellsJoinsRow : OpenClaim := { program := "ytlljeghlfijdnaa", sum := "4aa3234b0063e1d2ceb618f000b1d76868e1873fa50aa6093e3132c4d8d2ea3d", func := "entrepot/entrepotlaw01.CellsJoins", spec := "cellsJoins", apart := false }
def CellsJoinsSaid : Prop := cellsJoinsRow.holds Try.pinned (OpenSpec.ofChange cellsJoinsSpec)

/-- ITS FALSE NEIGHBOUR: 'it returns false'. Refute it at one input. -/
def cellsJoinsWrong : ChangeSpec := { name := "cellsJoins", fn := fun _ => fun
  | [d] => { results := [.lit (.bool false)], args := [d] }
  | _ => none }
def CellsJoinsWrongFalsely : Prop := cellsJoinsRow.holds Try.pinned (OpenSpec.ofChange cellsJoinsWrong)

/-- 'entrepotlaw01.CellsSplits': WHATEVER THE INPUT: true; the input reads as it did. -/
def cellsSplitsSpec : ChangeSpec := { name := "cellsSplits", fn := fun _ => fun
  | [d] => { results := [.lit (.bool true)], args := [d] }
  | _ => none }
def cellsSplitsRow : OpenClaim := { program := "ytlljeghlfijdnaa", sum := "4aa3234b0063e1d2ceb618f000b1d76868e1873fa50aa6093e3132c4d8d2ea3d", func := "entrepot/entrepotlaw01.CellsSplits", spec := "cellsSplits", apart := false }
def CellsSplitsSaid : Prop := cellsSplitsRow.holds Try.pinned (OpenSpec.ofChange cellsSplitsSpec)

/-- ITS FALSE NEIGHBOUR: 'it returns false'. Refute it at one input. -/
def cellsSplitsWrong : ChangeSpec := { name := "cellsSplits", fn := fun _ => fun
  | [d] => { results := [.lit (.bool false)], args := [d] }
  | _ => none }
def CellsSplitsWrongFalsely : Prop := cellsSplitsRow.holds Try.pinned (OpenSpec.ofChange cellsSplitsWrong)

/-- 'entrepotlaw01.CellsParts': WHATEVER THE INPUT: true; the input reads as it did. -/
def cellsPartsSpec : ChangeSpec := { name := "cellsParts", fn := fun _ => fun
  | [d1, d2] => { results := [.lit (.bool true)], args := [d1, d2] }
  | _ => none }
def cellsPartsRow : OpenClaim := { program := "ytlljeghlfijdnaa", sum := "4aa3234b0063e1d2ceb618f000b1d76868e1873fa50aa6093e3132c4d8d2ea3d", func := "entrepot/entrepotlaw01.CellsParts", spec := "cellsParts", unfollowed := true, recurses := true, apart := false }
def CellsPartsSaid : Prop := cellsPartsRow.holds Try.pinned (OpenSpec.ofChange cellsPartsSpec)

/-- ITS FALSE NEIGHBOUR: 'it returns false'. Refute it at one input. -/
def cellsPartsWrong : ChangeSpec := { name := "cellsParts", fn := fun _ => fun
  | [d1, d2] => { results := [.lit (.bool false)], args := [d1, d2] }
  | _ => none }
def CellsPartsWrongFalsely : Prop := cellsPartsRow.holds Try.pinned (OpenSpec.ofChange cellsPartsWrong)

/- THE SECOND FORM. 'bulk': how many values and letters a reading holds, each counted each time it is reached (what is shared counts as often as it is met; a slice's spare places count too). A statement '..UptoSaid' is the law's where the arguments, and the package variables that the reading takes, are together of bulk at most 1048576: NARROWER than '..Said'. Prove '..Said' where nothing that the law and all that it calls make is longer than what came in: it says more and counts as full. Else prove '..UptoSaid'. A law counts once. -/
mutual
def uptoBulk {H : Type} : DataW H → Nat
  | .lit (.string bytes) => bytes.length + 1
  | .lit _ => 1
  | .nil => 1
  | .ptr d => uptoBulk d + 1
  | .slice elems spare => uptoBulkAll elems + uptoBulkAll spare + 1
  | .agg parts => uptoBulkAll parts + 1
  | .iface _ d => uptoBulk d + 1
  | .map entries => uptoBulkEntries entries + 1
  | .held _ => 1
def uptoBulkAll {H : Type} : List (DataW H) → Nat
  | [] => 0
  | d :: r => uptoBulk d + uptoBulkAll r
def uptoBulkEntries {H : Type} : List (Lit × DataW H) → Nat
  | [] => 0
  | x :: r => uptoBulkEntry x + uptoBulkEntries r
def uptoBulkEntry {H : Type} : Lit × DataW H → Nat
  | (.string bytes, d) => bytes.length + uptoBulk d + 1
  | (_, d) => uptoBulk d + 1
 end
def uptoSmall : (H : Type) → List (DataW H) → Bool := fun _ ds => decide (uptoBulkAll ds ≤ 1048576)
def OpenSpec.upto (s : _root_.Go.ChangeSpec) : _root_.Go.OpenSpec := { _root_.Go.OpenSpec.ofChange s with cond := some uptoSmall }

/-- 'entrepotlaw01.CellsNumbers', WHERE WHAT IT READS IS OF BULK AT MOST 1048576: true; the input reads as it did. -/
def cellsNumbersUptoRow : OpenClaim := { program := "ytlljeghlfijdnaa", sum := "4aa3234b0063e1d2ceb618f000b1d76868e1873fa50aa6093e3132c4d8d2ea3d", func := "entrepot/entrepotlaw01.CellsNumbers", spec := "cellsNumbers", apart := false, narrowed := true }
def CellsNumbersUptoSaid : Prop := cellsNumbersUptoRow.holds Try.pinned (OpenSpec.upto cellsNumbersSpec)

/-- 'entrepotlaw01.CellsFirsts', WHERE WHAT IT READS IS OF BULK AT MOST 1048576: true; the input reads as it did. -/
def cellsFirstsUptoRow : OpenClaim := { program := "ytlljeghlfijdnaa", sum := "4aa3234b0063e1d2ceb618f000b1d76868e1873fa50aa6093e3132c4d8d2ea3d", func := "entrepot/entrepotlaw01.CellsFirsts", spec := "cellsFirsts", apart := false, narrowed := true }
def CellsFirstsUptoSaid : Prop := cellsFirstsUptoRow.holds Try.pinned (OpenSpec.upto cellsFirstsSpec)

/-- 'entrepotlaw01.CellsApart', WHERE WHAT IT READS IS OF BULK AT MOST 1048576: true; the input reads as it did. -/
def cellsApartUptoRow : OpenClaim := { program := "ytlljeghlfijdnaa", sum := "4aa3234b0063e1d2ceb618f000b1d76868e1873fa50aa6093e3132c4d8d2ea3d", func := "entrepot/entrepotlaw01.CellsApart", spec := "cellsApart", apart := false, narrowed := true }
def CellsApartUptoSaid : Prop := cellsApartUptoRow.holds Try.pinned (OpenSpec.upto cellsApartSpec)

/-- 'entrepotlaw01.CellsMakes', WHERE WHAT IT READS IS OF BULK AT MOST 1048576: true; the input reads as it did. -/
def cellsMakesUptoRow : OpenClaim := { program := "ytlljeghlfijdnaa", sum := "4aa3234b0063e1d2ceb618f000b1d76868e1873fa50aa6093e3132c4d8d2ea3d", func := "entrepot/entrepotlaw01.CellsMakes", spec := "cellsMakes", apart := false, narrowed := true }
def CellsMakesUptoSaid : Prop := cellsMakesUptoRow.holds Try.pinned (OpenSpec.upto cellsMakesSpec)

/-- 'entrepotlaw01.CellsBack', WHERE WHAT IT READS IS OF BULK AT MOST 1048576: true; the input reads as it did. -/
def cellsBackUptoRow : OpenClaim := { program := "ytlljeghlfijdnaa", sum := "4aa3234b0063e1d2ceb618f000b1d76868e1873fa50aa6093e3132c4d8d2ea3d", func := "entrepot/entrepotlaw01.CellsBack", spec := "cellsBack", apart := false, narrowed := true }
def CellsBackUptoSaid : Prop := cellsBackUptoRow.holds Try.pinned (OpenSpec.upto cellsBackSpec)

/-- 'entrepotlaw01.CellsTakes', WHERE WHAT IT READS IS OF BULK AT MOST 1048576: true; the input reads as it did. -/
def cellsTakesUptoRow : OpenClaim := { program := "ytlljeghlfijdnaa", sum := "4aa3234b0063e1d2ceb618f000b1d76868e1873fa50aa6093e3132c4d8d2ea3d", func := "entrepot/entrepotlaw01.CellsTakes", spec := "cellsTakes", apart := false, narrowed := true }
def CellsTakesUptoSaid : Prop := cellsTakesUptoRow.holds Try.pinned (OpenSpec.upto cellsTakesSpec)

/-- 'entrepotlaw01.CellsNobody', WHERE WHAT IT READS IS OF BULK AT MOST 1048576: true; the input reads as it did. -/
def cellsNobodyUptoRow : OpenClaim := { program := "ytlljeghlfijdnaa", sum := "4aa3234b0063e1d2ceb618f000b1d76868e1873fa50aa6093e3132c4d8d2ea3d", func := "entrepot/entrepotlaw01.CellsNobody", spec := "cellsNobody", apart := false, narrowed := true }
def CellsNobodyUptoSaid : Prop := cellsNobodyUptoRow.holds Try.pinned (OpenSpec.upto cellsNobodySpec)

/-- 'entrepotlaw01.CellsJoins', WHERE WHAT IT READS IS OF BULK AT MOST 1048576: true; the input reads as it did. -/
def cellsJoinsUptoRow : OpenClaim := { program := "ytlljeghlfijdnaa", sum := "4aa3234b0063e1d2ceb618f000b1d76868e1873fa50aa6093e3132c4d8d2ea3d", func := "entrepot/entrepotlaw01.CellsJoins", spec := "cellsJoins", apart := false, narrowed := true }
def CellsJoinsUptoSaid : Prop := cellsJoinsUptoRow.holds Try.pinned (OpenSpec.upto cellsJoinsSpec)

/-- 'entrepotlaw01.CellsSplits', WHERE WHAT IT READS IS OF BULK AT MOST 1048576: true; the input reads as it did. -/
def cellsSplitsUptoRow : OpenClaim := { program := "ytlljeghlfijdnaa", sum := "4aa3234b0063e1d2ceb618f000b1d76868e1873fa50aa6093e3132c4d8d2ea3d", func := "entrepot/entrepotlaw01.CellsSplits", spec := "cellsSplits", apart := false, narrowed := true }
def CellsSplitsUptoSaid : Prop := cellsSplitsUptoRow.holds Try.pinned (OpenSpec.upto cellsSplitsSpec)

/-- 'entrepotlaw01.CellsParts', WHERE WHAT IT READS IS OF BULK AT MOST 1048576: true; the input reads as it did. -/
def cellsPartsUptoRow : OpenClaim := { program := "ytlljeghlfijdnaa", sum := "4aa3234b0063e1d2ceb618f000b1d76868e1873fa50aa6093e3132c4d8d2ea3d", func := "entrepot/entrepotlaw01.CellsParts", spec := "cellsParts", unfollowed := true, recurses := true, apart := false, narrowed := true }
def CellsPartsUptoSaid : Prop := cellsPartsUptoRow.holds Try.pinned (OpenSpec.upto cellsPartsSpec)

end Rows
end Go.Proofs.Ytlljeghlfijdnaa

/-
  No cell of these rows narrows 'for every input' (looked for: loops, veiled, ifaces, maps, wideKeys, modest, calm, conditions, laid).
  DERIVED. THE GIVEN ROWS OF THIS SEAT. 8 by the template 'for every input the law returns true; each argument reads behind the call as it read before'; 0 by the template 'total and deterministic' (their statements: YtnmbblkfaoihfaaTotals.lean).
  GIVEN WITH THE SEED: the statements are not yours to turn. If you find one false, say at which input.
  Laid BY PROGRAM, IN A SANDBOX (cutbox-rows.mjs): the forced cells as the released guide's own fill.sh prints them over the translation 18625b2d46deb610… (all of the seat's roots in one cut). By AI agents, Wed Nov 11 2026. No macro, syntax, notation, axiom, sorry.
-/
import Derived.Test.YtnmbblkfaoihfaaChecked
import GoSem.Claim
import GoSem.ClaimJoined
import GoSem.ClaimMapViews
import Derived.JoinedTies
import Derived.KernelRfl
namespace Go.Proofs.Ytnmbblkfaoihfaa
/- THE CELL 'sum', in the pinned program and in every row, IS THE sha256 OF THE DUMP (.gsa) THAT YtnmbblkfaoihfaaProg.lean LOADS. Nothing in Lean hashes anything: it is a label: what it is worth is what the hold of that sum in a sandbox is worth. -/
noncomputable def Try.pinned : Pinned := { name := "ytnmbblkfaoihfaa", sum := "18625b2d46deb610b0a1d3156366763730b6ded89b926ad5fee7c7f832aab29d", checked := Try.checked }
namespace Rows
def none {H : Type} : Left H := { results := [], args := [] }

/-- 'entrepotlaw12.LinkOrder': WHATEVER THE INPUT: true; the input reads as it did. -/
def linkOrderSpec : ChangeSpec := { name := "linkOrder", fn := fun _ => fun
  | [d] => { results := [.lit (.bool true)], args := [d] }
  | _ => none }
def linkOrderRow : OpenClaim := { program := "ytnmbblkfaoihfaa", sum := "18625b2d46deb610b0a1d3156366763730b6ded89b926ad5fee7c7f832aab29d", func := "entrepot/entrepotlaw12.LinkOrder", spec := "linkOrder", unfollowed := true, recurses := true, apart := false }
def LinkOrderSaid : Prop := linkOrderRow.holds Try.pinned (OpenSpec.ofChange linkOrderSpec)

/-- ITS FALSE NEIGHBOUR: 'it returns false'. Refute it at one input. -/
def linkOrderWrong : ChangeSpec := { name := "linkOrder", fn := fun _ => fun
  | [d] => { results := [.lit (.bool false)], args := [d] }
  | _ => none }
def LinkOrderWrongFalsely : Prop := linkOrderRow.holds Try.pinned (OpenSpec.ofChange linkOrderWrong)

/-- 'entrepotlaw12.LinkEnds': WHATEVER THE INPUT: true; the input reads as it did. -/
def linkEndsSpec : ChangeSpec := { name := "linkEnds", fn := fun _ => fun
  | [d] => { results := [.lit (.bool true)], args := [d] }
  | _ => none }
def linkEndsRow : OpenClaim := { program := "ytnmbblkfaoihfaa", sum := "18625b2d46deb610b0a1d3156366763730b6ded89b926ad5fee7c7f832aab29d", func := "entrepot/entrepotlaw12.LinkEnds", spec := "linkEnds", unfollowed := true, recurses := true, apart := false }
def LinkEndsSaid : Prop := linkEndsRow.holds Try.pinned (OpenSpec.ofChange linkEndsSpec)

/-- ITS FALSE NEIGHBOUR: 'it returns false'. Refute it at one input. -/
def linkEndsWrong : ChangeSpec := { name := "linkEnds", fn := fun _ => fun
  | [d] => { results := [.lit (.bool false)], args := [d] }
  | _ => none }
def LinkEndsWrongFalsely : Prop := linkEndsRow.holds Try.pinned (OpenSpec.ofChange linkEndsWrong)

/-- 'entrepotlaw12.LinkTries': WHATEVER THE INPUT: true; the input reads as it did. -/
def linkTriesSpec : ChangeSpec := { name := "linkTries", fn := fun _ => fun
  | [d1, d2] => { results := [.lit (.bool true)], args := [d1, d2] }
  | _ => none }
def linkTriesRow : OpenClaim := { program := "ytnmbblkfaoihfaa", sum := "18625b2d46deb610b0a1d3156366763730b6ded89b926ad5fee7c7f832aab29d", func := "entrepot/entrepotlaw12.LinkTries", spec := "linkTries", unfollowed := true, recurses := true, apart := false }
def LinkTriesSaid : Prop := linkTriesRow.holds Try.pinned (OpenSpec.ofChange linkTriesSpec)

/-- ITS FALSE NEIGHBOUR: 'it returns false'. Refute it at one input. -/
def linkTriesWrong : ChangeSpec := { name := "linkTries", fn := fun _ => fun
  | [d1, d2] => { results := [.lit (.bool false)], args := [d1, d2] }
  | _ => none }
def LinkTriesWrongFalsely : Prop := linkTriesRow.holds Try.pinned (OpenSpec.ofChange linkTriesWrong)

/-- 'entrepotlaw12.LinkDoes': WHATEVER THE INPUT: true; the input reads as it did. -/
def linkDoesSpec : ChangeSpec := { name := "linkDoes", fn := fun _ => fun
  | [d] => { results := [.lit (.bool true)], args := [d] }
  | _ => none }
def linkDoesRow : OpenClaim := { program := "ytnmbblkfaoihfaa", sum := "18625b2d46deb610b0a1d3156366763730b6ded89b926ad5fee7c7f832aab29d", func := "entrepot/entrepotlaw12.LinkDoes", spec := "linkDoes", unfollowed := true, recurses := true, apart := false }
def LinkDoesSaid : Prop := linkDoesRow.holds Try.pinned (OpenSpec.ofChange linkDoesSpec)

/-- ITS FALSE NEIGHBOUR: 'it returns false'. Refute it at one input. -/
def linkDoesWrong : ChangeSpec := { name := "linkDoes", fn := fun _ => fun
  | [d] => { results := [.lit (.bool false)], args := [d] }
  | _ => none }
def LinkDoesWrongFalsely : Prop := linkDoesRow.holds Try.pinned (OpenSpec.ofChange linkDoesWrong)

/-- 'entrepotlaw12.LinkNobody': WHATEVER THE INPUT: true; the input reads as it did. -/
def linkNobodySpec : ChangeSpec := { name := "linkNobody", fn := fun _ => fun
  | [d] => { results := [.lit (.bool true)], args := [d] }
  | _ => none }
def linkNobodyRow : OpenClaim := { program := "ytnmbblkfaoihfaa", sum := "18625b2d46deb610b0a1d3156366763730b6ded89b926ad5fee7c7f832aab29d", func := "entrepot/entrepotlaw12.LinkNobody", spec := "linkNobody", unfollowed := true, recurses := true, apart := false }
def LinkNobodySaid : Prop := linkNobodyRow.holds Try.pinned (OpenSpec.ofChange linkNobodySpec)

/-- ITS FALSE NEIGHBOUR: 'it returns false'. Refute it at one input. -/
def linkNobodyWrong : ChangeSpec := { name := "linkNobody", fn := fun _ => fun
  | [d] => { results := [.lit (.bool false)], args := [d] }
  | _ => none }
def LinkNobodyWrongFalsely : Prop := linkNobodyRow.holds Try.pinned (OpenSpec.ofChange linkNobodyWrong)

/-- 'entrepotlaw12.LinkCodes': WHATEVER THE INPUT: true; the input reads as it did. -/
def linkCodesSpec : ChangeSpec := { name := "linkCodes", fn := fun _ => fun
  | [d1, d2] => { results := [.lit (.bool true)], args := [d1, d2] }
  | _ => none }
def linkCodesRow : OpenClaim := { program := "ytnmbblkfaoihfaa", sum := "18625b2d46deb610b0a1d3156366763730b6ded89b926ad5fee7c7f832aab29d", func := "entrepot/entrepotlaw12.LinkCodes", spec := "linkCodes", unfollowed := true, recurses := true, apart := false }
def LinkCodesSaid : Prop := linkCodesRow.holds Try.pinned (OpenSpec.ofChange linkCodesSpec)

/-- ITS FALSE NEIGHBOUR: 'it returns false'. Refute it at one input. -/
def linkCodesWrong : ChangeSpec := { name := "linkCodes", fn := fun _ => fun
  | [d1, d2] => { results := [.lit (.bool false)], args := [d1, d2] }
  | _ => none }
def LinkCodesWrongFalsely : Prop := linkCodesRow.holds Try.pinned (OpenSpec.ofChange linkCodesWrong)

/-- 'entrepotlaw12.LinkPacks': WHATEVER THE INPUT: true; the input reads as it did. -/
def linkPacksSpec : ChangeSpec := { name := "linkPacks", fn := fun _ => fun
  | [d] => { results := [.lit (.bool true)], args := [d] }
  | _ => none }
def linkPacksRow : OpenClaim := { program := "ytnmbblkfaoihfaa", sum := "18625b2d46deb610b0a1d3156366763730b6ded89b926ad5fee7c7f832aab29d", func := "entrepot/entrepotlaw12.LinkPacks", spec := "linkPacks", unfollowed := true, recurses := true, apart := false }
def LinkPacksSaid : Prop := linkPacksRow.holds Try.pinned (OpenSpec.ofChange linkPacksSpec)

/-- ITS FALSE NEIGHBOUR: 'it returns false'. Refute it at one input. -/
def linkPacksWrong : ChangeSpec := { name := "linkPacks", fn := fun _ => fun
  | [d] => { results := [.lit (.bool false)], args := [d] }
  | _ => none }
def LinkPacksWrongFalsely : Prop := linkPacksRow.holds Try.pinned (OpenSpec.ofChange linkPacksWrong)

/-- 'entrepotlaw12.LinkUnpacks': WHATEVER THE INPUT: true; the input reads as it did. -/
def linkUnpacksSpec : ChangeSpec := { name := "linkUnpacks", fn := fun _ => fun
  | [d1, d2] => { results := [.lit (.bool true)], args := [d1, d2] }
  | _ => none }
def linkUnpacksRow : OpenClaim := { program := "ytnmbblkfaoihfaa", sum := "18625b2d46deb610b0a1d3156366763730b6ded89b926ad5fee7c7f832aab29d", func := "entrepot/entrepotlaw12.LinkUnpacks", spec := "linkUnpacks", unfollowed := true, recurses := true, apart := false }
def LinkUnpacksSaid : Prop := linkUnpacksRow.holds Try.pinned (OpenSpec.ofChange linkUnpacksSpec)

/-- ITS FALSE NEIGHBOUR: 'it returns false'. Refute it at one input. -/
def linkUnpacksWrong : ChangeSpec := { name := "linkUnpacks", fn := fun _ => fun
  | [d1, d2] => { results := [.lit (.bool false)], args := [d1, d2] }
  | _ => none }
def LinkUnpacksWrongFalsely : Prop := linkUnpacksRow.holds Try.pinned (OpenSpec.ofChange linkUnpacksWrong)

/- THE SECOND FORM. 'bulk': how many values and letters a reading holds, each counted each time it is reached (what is shared counts as often as it is met; a slice's spare places count too). A statement '..UptoSaid' is the law's where the arguments, and the package variables that the reading takes, are together of bulk at most 1048576: NARROWER than '..Said'. Prove '..Said' where nothing that the law and all that it calls make is longer than what came in: it says more and counts as full. Else prove '..UptoSaid'. A law counts once. -/
mutual
def uptoBulk {H : Type} : DataW H → Nat
  | .lit (.string bytes) => bytes.length + 1
  | .lit _ => 1
  | .nil => 1
  | .ptr d => uptoBulk d + 1
  | .slice elems spare => uptoBulkAll elems + uptoBulkAll spare + 1
  | .agg parts => uptoBulkAll parts + 1
  | .iface _ d => uptoBulk d + 1
  | .map entries => uptoBulkEntries entries + 1
  | .held _ => 1
def uptoBulkAll {H : Type} : List (DataW H) → Nat
  | [] => 0
  | d :: r => uptoBulk d + uptoBulkAll r
def uptoBulkEntries {H : Type} : List (Lit × DataW H) → Nat
  | [] => 0
  | x :: r => uptoBulkEntry x + uptoBulkEntries r
def uptoBulkEntry {H : Type} : Lit × DataW H → Nat
  | (.string bytes, d) => bytes.length + uptoBulk d + 1
  | (_, d) => uptoBulk d + 1
 end
def uptoSmall : (H : Type) → List (DataW H) → Bool := fun _ ds => decide (uptoBulkAll ds ≤ 1048576)
def OpenSpec.upto (s : _root_.Go.ChangeSpec) : _root_.Go.OpenSpec := { _root_.Go.OpenSpec.ofChange s with cond := some uptoSmall }

/-- 'entrepotlaw12.LinkOrder', WHERE WHAT IT READS IS OF BULK AT MOST 1048576: true; the input reads as it did. -/
def linkOrderUptoRow : OpenClaim := { program := "ytnmbblkfaoihfaa", sum := "18625b2d46deb610b0a1d3156366763730b6ded89b926ad5fee7c7f832aab29d", func := "entrepot/entrepotlaw12.LinkOrder", spec := "linkOrder", unfollowed := true, recurses := true, apart := false, narrowed := true }
def LinkOrderUptoSaid : Prop := linkOrderUptoRow.holds Try.pinned (OpenSpec.upto linkOrderSpec)

/-- 'entrepotlaw12.LinkEnds', WHERE WHAT IT READS IS OF BULK AT MOST 1048576: true; the input reads as it did. -/
def linkEndsUptoRow : OpenClaim := { program := "ytnmbblkfaoihfaa", sum := "18625b2d46deb610b0a1d3156366763730b6ded89b926ad5fee7c7f832aab29d", func := "entrepot/entrepotlaw12.LinkEnds", spec := "linkEnds", unfollowed := true, recurses := true, apart := false, narrowed := true }
def LinkEndsUptoSaid : Prop := linkEndsUptoRow.holds Try.pinned (OpenSpec.upto linkEndsSpec)

/-- 'entrepotlaw12.LinkTries', WHERE WHAT IT READS IS OF BULK AT MOST 1048576: true; the input reads as it did. -/
def linkTriesUptoRow : OpenClaim := { program := "ytnmbblkfaoihfaa", sum := "18625b2d46deb610b0a1d3156366763730b6ded89b926ad5fee7c7f832aab29d", func := "entrepot/entrepotlaw12.LinkTries", spec := "linkTries", unfollowed := true, recurses := true, apart := false, narrowed := true }
def LinkTriesUptoSaid : Prop := linkTriesUptoRow.holds Try.pinned (OpenSpec.upto linkTriesSpec)

/-- 'entrepotlaw12.LinkDoes', WHERE WHAT IT READS IS OF BULK AT MOST 1048576: true; the input reads as it did. -/
def linkDoesUptoRow : OpenClaim := { program := "ytnmbblkfaoihfaa", sum := "18625b2d46deb610b0a1d3156366763730b6ded89b926ad5fee7c7f832aab29d", func := "entrepot/entrepotlaw12.LinkDoes", spec := "linkDoes", unfollowed := true, recurses := true, apart := false, narrowed := true }
def LinkDoesUptoSaid : Prop := linkDoesUptoRow.holds Try.pinned (OpenSpec.upto linkDoesSpec)

/-- 'entrepotlaw12.LinkNobody', WHERE WHAT IT READS IS OF BULK AT MOST 1048576: true; the input reads as it did. -/
def linkNobodyUptoRow : OpenClaim := { program := "ytnmbblkfaoihfaa", sum := "18625b2d46deb610b0a1d3156366763730b6ded89b926ad5fee7c7f832aab29d", func := "entrepot/entrepotlaw12.LinkNobody", spec := "linkNobody", unfollowed := true, recurses := true, apart := false, narrowed := true }
def LinkNobodyUptoSaid : Prop := linkNobodyUptoRow.holds Try.pinned (OpenSpec.upto linkNobodySpec)

/-- 'entrepotlaw12.LinkCodes', WHERE WHAT IT READS IS OF BULK AT MOST 1048576: true; the input reads as it did. -/
def linkCodesUptoRow : OpenClaim := { program := "ytnmbblkfaoihfaa", sum := "18625b2d46deb610b0a1d3156366763730b6ded89b926ad5fee7c7f832aab29d", func := "entrepot/entrepotlaw12.LinkCodes", spec := "linkCodes", unfollowed := true, recurses := true, apart := false, narrowed := true }
def LinkCodesUptoSaid : Prop := linkCodesUptoRow.holds Try.pinned (OpenSpec.upto linkCodesSpec)

/-- 'entrepotlaw12.LinkPacks', WHERE WHAT IT READS IS OF BULK AT MOST 1048576: true; the input reads as it did. -/
def linkPacksUptoRow : OpenClaim := { program := "ytnmbblkfaoihfaa", sum := "18625b2d46deb610b0a1d3156366763730b6ded89b926ad5fee7c7f832aab29d", func := "entrepot/entrepotlaw12.LinkPacks", spec := "linkPacks", unfollowed := true, recurses := true, apart := false, narrowed := true }
def LinkPacksUptoSaid : Prop := linkPacksUptoRow.holds Try.pinned (OpenSpec.upto linkPacksSpec)

/-- 'entrepotlaw12.LinkUnpacks', WHERE WHAT IT READS IS OF BULK AT MOST 1048576: true; the input reads as it did. -/
def linkUnpacksUptoRow : OpenClaim := { program := "ytnmbblkfaoihfaa", sum := "18625b2d46deb610b0a1d3156366763730b6ded89b926ad5fee7c7f832aab29d", func := "entrepot/entrepotlaw12.LinkUnpacks", spec := "linkUnpacks", unfollowed := true, recurses := true, apart := false, narrowed := true }
def LinkUnpacksUptoSaid : Prop := linkUnpacksUptoRow.holds Try.pinned (OpenSpec.upto linkUnpacksSpec)

end Rows
end Go.Proofs.Ytnmbblkfaoihfaa

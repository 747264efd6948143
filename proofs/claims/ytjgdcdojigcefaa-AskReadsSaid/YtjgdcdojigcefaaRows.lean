/-
  No cell of these rows narrows 'for every input' (looked for: loops, veiled, ifaces, maps, wideKeys, modest, calm, conditions, laid).
  DERIVED. THE GIVEN ROWS OF THIS SEAT. 6 by the template 'for every input the law returns true; each argument reads behind the call as it read before'; 0 by the template 'total and deterministic' (their statements: YtjgdcdojigcefaaTotals.lean).
  GIVEN WITH THE SEED: the statements are not yours to turn. If you find one false, say at which input.
  Laid BY PROGRAM, IN A SANDBOX (cutbox-rows.mjs): the forced cells as the released guide's own fill.sh prints them over the translation 22518ee293b1b104… (all of the seat's roots in one cut). By AI agents, Wed Nov 11 2026. No macro, syntax, notation, axiom, sorry.
-/
import Derived.Test.YtjgdcdojigcefaaChecked
import GoSem.Claim
import GoSem.ClaimJoined
import GoSem.ClaimMapViews
import Derived.JoinedTies
import Derived.KernelRfl
namespace Go.Proofs.Ytjgdcdojigcefaa
/- THE CELL 'sum', in the pinned program and in every row, IS THE sha256 OF THE DUMP (.gsa) THAT YtjgdcdojigcefaaProg.lean LOADS. Nothing in Lean hashes anything: it is a label: what it is worth is what the hold of that sum in a sandbox is worth. -/
noncomputable def Try.pinned : Pinned := { name := "ytjgdcdojigcefaa", sum := "22518ee293b1b10425c28cac9f851e27cedc6b89b6c3bdcace08b6604024512d", checked := Try.checked }
namespace Rows
def none {H : Type} : Left H := { results := [], args := [] }

/-- 'entrepotlaw10.AskCodes': WHATEVER THE INPUT: true; the input reads as it did. -/
def askCodesSpec : ChangeSpec := { name := "askCodes", fn := fun _ => fun
  | [d] => { results := [.lit (.bool true)], args := [d] }
  | _ => none }
def askCodesRow : OpenClaim := { program := "ytjgdcdojigcefaa", sum := "22518ee293b1b10425c28cac9f851e27cedc6b89b6c3bdcace08b6604024512d", func := "entrepot/entrepotlaw10.AskCodes", spec := "askCodes", inPlace := ["internal/bytealg.IndexByteString", "internal/bytealg.IndexString"], unfollowed := true, recurses := true, named := ["internal/bytealg.MaxLen"], apart := false }
def AskCodesSaid : Prop := askCodesRow.holds Try.pinned (OpenSpec.ofChange askCodesSpec)

/-- ITS FALSE NEIGHBOUR: 'it returns false'. Refute it at one input. -/
def askCodesWrong : ChangeSpec := { name := "askCodes", fn := fun _ => fun
  | [d] => { results := [.lit (.bool false)], args := [d] }
  | _ => none }
def AskCodesWrongFalsely : Prop := askCodesRow.holds Try.pinned (OpenSpec.ofChange askCodesWrong)

/-- 'entrepotlaw10.AskReads': WHATEVER THE INPUT: true; the input reads as it did. -/
def askReadsSpec : ChangeSpec := { name := "askReads", fn := fun _ => fun
  | [d] => { results := [.lit (.bool true)], args := [d] }
  | _ => none }
def askReadsRow : OpenClaim := { program := "ytjgdcdojigcefaa", sum := "22518ee293b1b10425c28cac9f851e27cedc6b89b6c3bdcace08b6604024512d", func := "entrepot/entrepotlaw10.AskReads", spec := "askReads", inPlace := ["internal/bytealg.IndexByteString", "internal/bytealg.IndexString"], unfollowed := true, recurses := true, named := ["internal/bytealg.MaxLen"], apart := false }
def AskReadsSaid : Prop := askReadsRow.holds Try.pinned (OpenSpec.ofChange askReadsSpec)

/-- ITS FALSE NEIGHBOUR: 'it returns false'. Refute it at one input. -/
def askReadsWrong : ChangeSpec := { name := "askReads", fn := fun _ => fun
  | [d] => { results := [.lit (.bool false)], args := [d] }
  | _ => none }
def AskReadsWrongFalsely : Prop := askReadsRow.holds Try.pinned (OpenSpec.ofChange askReadsWrong)

/-- 'entrepotlaw10.AskOrders': WHATEVER THE INPUT: true; the input reads as it did. -/
def askOrdersSpec : ChangeSpec := { name := "askOrders", fn := fun _ => fun
  | [d1, d2, d3] => { results := [.lit (.bool true)], args := [d1, d2, d3] }
  | _ => none }
def askOrdersRow : OpenClaim := { program := "ytjgdcdojigcefaa", sum := "22518ee293b1b10425c28cac9f851e27cedc6b89b6c3bdcace08b6604024512d", func := "entrepot/entrepotlaw10.AskOrders", spec := "askOrders", inPlace := ["internal/bytealg.IndexByteString", "internal/bytealg.IndexString"], unfollowed := true, recurses := true, named := ["internal/bytealg.MaxLen"], apart := false }
def AskOrdersSaid : Prop := askOrdersRow.holds Try.pinned (OpenSpec.ofChange askOrdersSpec)

/-- ITS FALSE NEIGHBOUR: 'it returns false'. Refute it at one input. -/
def askOrdersWrong : ChangeSpec := { name := "askOrders", fn := fun _ => fun
  | [d1, d2, d3] => { results := [.lit (.bool false)], args := [d1, d2, d3] }
  | _ => none }
def AskOrdersWrongFalsely : Prop := askOrdersRow.holds Try.pinned (OpenSpec.ofChange askOrdersWrong)

/-- 'entrepotlaw10.AskSame': WHATEVER THE INPUT: true; the input reads as it did. -/
def askSameSpec : ChangeSpec := { name := "askSame", fn := fun _ => fun
  | [d1, d2, d3] => { results := [.lit (.bool true)], args := [d1, d2, d3] }
  | _ => none }
def askSameRow : OpenClaim := { program := "ytjgdcdojigcefaa", sum := "22518ee293b1b10425c28cac9f851e27cedc6b89b6c3bdcace08b6604024512d", func := "entrepot/entrepotlaw10.AskSame", spec := "askSame", inPlace := ["internal/bytealg.IndexByteString", "internal/bytealg.IndexString"], unfollowed := true, recurses := true, named := ["internal/bytealg.MaxLen"], apart := false }
def AskSameSaid : Prop := askSameRow.holds Try.pinned (OpenSpec.ofChange askSameSpec)

/-- ITS FALSE NEIGHBOUR: 'it returns false'. Refute it at one input. -/
def askSameWrong : ChangeSpec := { name := "askSame", fn := fun _ => fun
  | [d1, d2, d3] => { results := [.lit (.bool false)], args := [d1, d2, d3] }
  | _ => none }
def AskSameWrongFalsely : Prop := askSameRow.holds Try.pinned (OpenSpec.ofChange askSameWrong)

/-- 'entrepotlaw10.AskOwners': WHATEVER THE INPUT: true; the input reads as it did. -/
def askOwnersSpec : ChangeSpec := { name := "askOwners", fn := fun _ => fun
  | [d] => { results := [.lit (.bool true)], args := [d] }
  | _ => none }
def askOwnersRow : OpenClaim := { program := "ytjgdcdojigcefaa", sum := "22518ee293b1b10425c28cac9f851e27cedc6b89b6c3bdcace08b6604024512d", func := "entrepot/entrepotlaw10.AskOwners", spec := "askOwners", inPlace := ["internal/bytealg.IndexByteString", "internal/bytealg.IndexString"], unfollowed := true, recurses := true, named := ["internal/bytealg.MaxLen"], apart := false }
def AskOwnersSaid : Prop := askOwnersRow.holds Try.pinned (OpenSpec.ofChange askOwnersSpec)

/-- ITS FALSE NEIGHBOUR: 'it returns false'. Refute it at one input. -/
def askOwnersWrong : ChangeSpec := { name := "askOwners", fn := fun _ => fun
  | [d] => { results := [.lit (.bool false)], args := [d] }
  | _ => none }
def AskOwnersWrongFalsely : Prop := askOwnersRow.holds Try.pinned (OpenSpec.ofChange askOwnersWrong)

/-- 'entrepotlaw10.AskHomes': WHATEVER THE INPUT: true; the input reads as it did. -/
def askHomesSpec : ChangeSpec := { name := "askHomes", fn := fun _ => fun
  | [d1, d2] => { results := [.lit (.bool true)], args := [d1, d2] }
  | _ => none }
def askHomesRow : OpenClaim := { program := "ytjgdcdojigcefaa", sum := "22518ee293b1b10425c28cac9f851e27cedc6b89b6c3bdcace08b6604024512d", func := "entrepot/entrepotlaw10.AskHomes", spec := "askHomes", inPlace := ["internal/bytealg.IndexByteString", "internal/bytealg.IndexString"], unfollowed := true, recurses := true, named := ["internal/bytealg.MaxLen"], apart := false }
def AskHomesSaid : Prop := askHomesRow.holds Try.pinned (OpenSpec.ofChange askHomesSpec)

/-- ITS FALSE NEIGHBOUR: 'it returns false'. Refute it at one input. -/
def askHomesWrong : ChangeSpec := { name := "askHomes", fn := fun _ => fun
  | [d1, d2] => { results := [.lit (.bool false)], args := [d1, d2] }
  | _ => none }
def AskHomesWrongFalsely : Prop := askHomesRow.holds Try.pinned (OpenSpec.ofChange askHomesWrong)

/- THE SECOND FORM. 'bulk': how many values and letters a reading holds, each counted each time it is reached (what is shared counts as often as it is met; a slice's spare places count too). A statement '..UptoSaid' is the law's where the arguments, and the package variables that the reading takes, are together of bulk at most 1048576: NARROWER than '..Said'. Prove '..Said' where nothing that the law and all that it calls make is longer than what came in: it says more and counts as full. Else prove '..UptoSaid'. A law counts once. -/
mutual
def uptoBulk {H : Type} : DataW H → Nat
  | .lit (.string bytes) => bytes.length + 1
  | .lit _ => 1
  | .nil => 1
  | .ptr d => uptoBulk d + 1
  | .slice elems spare => uptoBulkAll elems + uptoBulkAll spare + 1
  | .agg parts => uptoBulkAll parts + 1
  | .iface _ d => uptoBulk d + 1
  | .map entries => uptoBulkEntries entries + 1
  | .held _ => 1
def uptoBulkAll {H : Type} : List (DataW H) → Nat
  | [] => 0
  | d :: r => uptoBulk d + uptoBulkAll r
def uptoBulkEntries {H : Type} : List (Lit × DataW H) → Nat
  | [] => 0
  | x :: r => uptoBulkEntry x + uptoBulkEntries r
def uptoBulkEntry {H : Type} : Lit × DataW H → Nat
  | (.string bytes, d) => bytes.length + uptoBulk d + 1
  | (_, d) => uptoBulk d + 1
 end
def uptoSmall : (H : Type) → List (DataW H) → Bool := fun _ ds => decide (uptoBulkAll ds ≤ 1048576)
def OpenSpec.upto (s : _root_.Go.ChangeSpec) : _root_.Go.OpenSpec := { _root_.Go.OpenSpec.ofChange s with cond := some uptoSmall }

/-- 'entrepotlaw10.AskCodes', WHERE WHAT IT READS IS OF BULK AT MOST 1048576: true; the input reads as it did. -/
def askCodesUptoRow : OpenClaim := { program := "ytjgdcdojigcefaa", sum := "22518ee293b1b10425c28cac9f851e27cedc6b89b6c3bdcace08b6604024512d", func := "entrepot/entrepotlaw10.AskCodes", spec := "askCodes", inPlace := ["internal/bytealg.IndexByteString", "internal/bytealg.IndexString"], unfollowed := true, recurses := true, named := ["internal/bytealg.MaxLen"], apart := false, narrowed := true }
def AskCodesUptoSaid : Prop := askCodesUptoRow.holds Try.pinned (OpenSpec.upto askCodesSpec)

/-- 'entrepotlaw10.AskReads', WHERE WHAT IT READS IS OF BULK AT MOST 1048576: true; the input reads as it did. -/
def askReadsUptoRow : OpenClaim := { program := "ytjgdcdojigcefaa", sum := "22518ee293b1b10425c28cac9f851e27cedc6b89b6c3bdcace08b6604024512d", func := "entrepot/entrepotlaw10.AskReads", spec := "askReads", inPlace := ["internal/bytealg.IndexByteString", "internal/bytealg.IndexString"], unfollowed := true, recurses := true, named := ["internal/bytealg.MaxLen"], apart := false, narrowed := true }
def AskReadsUptoSaid : Prop := askReadsUptoRow.holds Try.pinned (OpenSpec.upto askReadsSpec)

/-- 'entrepotlaw10.AskOrders', WHERE WHAT IT READS IS OF BULK AT MOST 1048576: true; the input reads as it did. -/
def askOrdersUptoRow : OpenClaim := { program := "ytjgdcdojigcefaa", sum := "22518ee293b1b10425c28cac9f851e27cedc6b89b6c3bdcace08b6604024512d", func := "entrepot/entrepotlaw10.AskOrders", spec := "askOrders", inPlace := ["internal/bytealg.IndexByteString", "internal/bytealg.IndexString"], unfollowed := true, recurses := true, named := ["internal/bytealg.MaxLen"], apart := false, narrowed := true }
def AskOrdersUptoSaid : Prop := askOrdersUptoRow.holds Try.pinned (OpenSpec.upto askOrdersSpec)

/-- 'entrepotlaw10.AskSame', WHERE WHAT IT READS IS OF BULK AT MOST 1048576: true; the input reads as it did. -/
def askSameUptoRow : OpenClaim := { program := "ytjgdcdojigcefaa", sum := "22518ee293b1b10425c28cac9f851e27cedc6b89b6c3bdcace08b6604024512d", func := "entrepot/entrepotlaw10.AskSame", spec := "askSame", inPlace := ["internal/bytealg.IndexByteString", "internal/bytealg.IndexString"], unfollowed := true, recurses := true, named := ["internal/bytealg.MaxLen"], apart := false, narrowed := true }
def AskSameUptoSaid : Prop := askSameUptoRow.holds Try.pinned (OpenSpec.upto askSameSpec)

/-- 'entrepotlaw10.AskOwners', WHERE WHAT IT READS IS OF BULK AT MOST 1048576: true; the input reads as it did. -/
def askOwnersUptoRow : OpenClaim := { program := "ytjgdcdojigcefaa", sum := "22518ee293b1b10425c28cac9f851e27cedc6b89b6c3bdcace08b6604024512d", func := "entrepot/entrepotlaw10.AskOwners", spec := "askOwners", inPlace := ["internal/bytealg.IndexByteString", "internal/bytealg.IndexString"], unfollowed := true, recurses := true, named := ["internal/bytealg.MaxLen"], apart := false, narrowed := true }
def AskOwnersUptoSaid : Prop := askOwnersUptoRow.holds Try.pinned (OpenSpec.upto askOwnersSpec)

/-- 'entrepotlaw10.AskHomes', WHERE WHAT IT READS IS OF BULK AT MOST 1048576: true; the input reads as it did. -/
def askHomesUptoRow : OpenClaim := { program := "ytjgdcdojigcefaa", sum := "22518ee293b1b10425c28cac9f851e27cedc6b89b6c3bdcace08b6604024512d", func := "entrepot/entrepotlaw10.AskHomes", spec := "askHomes", inPlace := ["internal/bytealg.IndexByteString", "internal/bytealg.IndexString"], unfollowed := true, recurses := true, named := ["internal/bytealg.MaxLen"], apart := false, narrowed := true }
def AskHomesUptoSaid : Prop := askHomesUptoRow.holds Try.pinned (OpenSpec.upto askHomesSpec)

end Rows
end Go.Proofs.Ytjgdcdojigcefaa

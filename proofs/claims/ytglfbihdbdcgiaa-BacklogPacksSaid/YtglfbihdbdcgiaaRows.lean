/-
  No cell of these rows narrows 'for every input' (looked for: loops, veiled, ifaces, maps, wideKeys, modest, calm, conditions, laid).
  DERIVED. THE GIVEN ROWS OF THIS SEAT. 7 by the template 'for every input the law returns true; each argument reads behind the call as it read before'; 0 by the template 'total and deterministic' (their statements: YtglfbihdbdcgiaaTotals.lean).
  GIVEN WITH THE SEED: the statements are not yours to turn. If you find one false, say at which input.
  Laid BY PROGRAM, IN A SANDBOX (cutbox-rows.mjs): the forced cells as the released guide's own fill.sh prints them over the translation a7fabef314af002a… (all of the seat's roots in one cut). By AI agents, Wed Nov 11 2026. No macro, syntax, notation, axiom, sorry.
-/
import Derived.Test.YtglfbihdbdcgiaaChecked
import GoSem.Claim
import GoSem.ClaimJoined
import GoSem.ClaimMapViews
import Derived.JoinedTies
import Derived.KernelRfl
namespace Go.Proofs.Ytglfbihdbdcgiaa
/- THE CELL 'sum', in the pinned program and in every row, IS THE sha256 OF THE DUMP (.gsa) THAT YtglfbihdbdcgiaaProg.lean LOADS. Nothing in Lean hashes anything: it is a label: what it is worth is what the hold of that sum in a sandbox is worth. -/
noncomputable def Try.pinned : Pinned := { name := "ytglfbihdbdcgiaa", sum := "a7fabef314af002ae27510e8d319dc22e9f351b56c45be0fddc4758e6f2cf563", checked := Try.checked }
namespace Rows
def none {H : Type} : Left H := { results := [], args := [] }

/-- 'entrepotlaw16.BacklogFair': WHATEVER THE INPUT: true; the input reads as it did. -/
def backlogFairSpec : ChangeSpec := { name := "backlogFair", fn := fun _ => fun
  | [d] => { results := [.lit (.bool true)], args := [d] }
  | _ => none }
def backlogFairRow : OpenClaim := { program := "ytglfbihdbdcgiaa", sum := "a7fabef314af002ae27510e8d319dc22e9f351b56c45be0fddc4758e6f2cf563", func := "entrepot/entrepotlaw16.BacklogFair", spec := "backlogFair", unfollowed := true, recurses := true, apart := false }
def BacklogFairSaid : Prop := backlogFairRow.holds Try.pinned (OpenSpec.ofChange backlogFairSpec)

/-- ITS FALSE NEIGHBOUR: 'it returns false'. Refute it at one input. -/
def backlogFairWrong : ChangeSpec := { name := "backlogFair", fn := fun _ => fun
  | [d] => { results := [.lit (.bool false)], args := [d] }
  | _ => none }
def BacklogFairWrongFalsely : Prop := backlogFairRow.holds Try.pinned (OpenSpec.ofChange backlogFairWrong)

/-- 'entrepotlaw16.BacklogAll': WHATEVER THE INPUT: true; the input reads as it did. -/
def backlogAllSpec : ChangeSpec := { name := "backlogAll", fn := fun _ => fun
  | [d] => { results := [.lit (.bool true)], args := [d] }
  | _ => none }
def backlogAllRow : OpenClaim := { program := "ytglfbihdbdcgiaa", sum := "a7fabef314af002ae27510e8d319dc22e9f351b56c45be0fddc4758e6f2cf563", func := "entrepot/entrepotlaw16.BacklogAll", spec := "backlogAll", unfollowed := true, recurses := true, apart := false }
def BacklogAllSaid : Prop := backlogAllRow.holds Try.pinned (OpenSpec.ofChange backlogAllSpec)

/-- ITS FALSE NEIGHBOUR: 'it returns false'. Refute it at one input. -/
def backlogAllWrong : ChangeSpec := { name := "backlogAll", fn := fun _ => fun
  | [d] => { results := [.lit (.bool false)], args := [d] }
  | _ => none }
def BacklogAllWrongFalsely : Prop := backlogAllRow.holds Try.pinned (OpenSpec.ofChange backlogAllWrong)

/-- 'entrepotlaw16.BacklogFull': WHATEVER THE INPUT: true; the input reads as it did. -/
def backlogFullSpec : ChangeSpec := { name := "backlogFull", fn := fun _ => fun
  | [d1, d2] => { results := [.lit (.bool true)], args := [d1, d2] }
  | _ => none }
def backlogFullRow : OpenClaim := { program := "ytglfbihdbdcgiaa", sum := "a7fabef314af002ae27510e8d319dc22e9f351b56c45be0fddc4758e6f2cf563", func := "entrepot/entrepotlaw16.BacklogFull", spec := "backlogFull", unfollowed := true, recurses := true, apart := false }
def BacklogFullSaid : Prop := backlogFullRow.holds Try.pinned (OpenSpec.ofChange backlogFullSpec)

/-- ITS FALSE NEIGHBOUR: 'it returns false'. Refute it at one input. -/
def backlogFullWrong : ChangeSpec := { name := "backlogFull", fn := fun _ => fun
  | [d1, d2] => { results := [.lit (.bool false)], args := [d1, d2] }
  | _ => none }
def BacklogFullWrongFalsely : Prop := backlogFullRow.holds Try.pinned (OpenSpec.ofChange backlogFullWrong)

/-- 'entrepotlaw16.BacklogDoes': WHATEVER THE INPUT: true; the input reads as it did. -/
def backlogDoesSpec : ChangeSpec := { name := "backlogDoes", fn := fun _ => fun
  | [d] => { results := [.lit (.bool true)], args := [d] }
  | _ => none }
def backlogDoesRow : OpenClaim := { program := "ytglfbihdbdcgiaa", sum := "a7fabef314af002ae27510e8d319dc22e9f351b56c45be0fddc4758e6f2cf563", func := "entrepot/entrepotlaw16.BacklogDoes", spec := "backlogDoes", unfollowed := true, recurses := true, apart := false }
def BacklogDoesSaid : Prop := backlogDoesRow.holds Try.pinned (OpenSpec.ofChange backlogDoesSpec)

/-- ITS FALSE NEIGHBOUR: 'it returns false'. Refute it at one input. -/
def backlogDoesWrong : ChangeSpec := { name := "backlogDoes", fn := fun _ => fun
  | [d] => { results := [.lit (.bool false)], args := [d] }
  | _ => none }
def BacklogDoesWrongFalsely : Prop := backlogDoesRow.holds Try.pinned (OpenSpec.ofChange backlogDoesWrong)

/-- 'entrepotlaw16.BacklogNobody': WHATEVER THE INPUT: true; the input reads as it did. -/
def backlogNobodySpec : ChangeSpec := { name := "backlogNobody", fn := fun _ => fun
  | [d] => { results := [.lit (.bool true)], args := [d] }
  | _ => none }
def backlogNobodyRow : OpenClaim := { program := "ytglfbihdbdcgiaa", sum := "a7fabef314af002ae27510e8d319dc22e9f351b56c45be0fddc4758e6f2cf563", func := "entrepot/entrepotlaw16.BacklogNobody", spec := "backlogNobody", unfollowed := true, recurses := true, apart := false }
def BacklogNobodySaid : Prop := backlogNobodyRow.holds Try.pinned (OpenSpec.ofChange backlogNobodySpec)

/-- ITS FALSE NEIGHBOUR: 'it returns false'. Refute it at one input. -/
def backlogNobodyWrong : ChangeSpec := { name := "backlogNobody", fn := fun _ => fun
  | [d] => { results := [.lit (.bool false)], args := [d] }
  | _ => none }
def BacklogNobodyWrongFalsely : Prop := backlogNobodyRow.holds Try.pinned (OpenSpec.ofChange backlogNobodyWrong)

/-- 'entrepotlaw16.BacklogUnpacks': WHATEVER THE INPUT: true; the input reads as it did. -/
def backlogUnpacksSpec : ChangeSpec := { name := "backlogUnpacks", fn := fun _ => fun
  | [d] => { results := [.lit (.bool true)], args := [d] }
  | _ => none }
def backlogUnpacksRow : OpenClaim := { program := "ytglfbihdbdcgiaa", sum := "a7fabef314af002ae27510e8d319dc22e9f351b56c45be0fddc4758e6f2cf563", func := "entrepot/entrepotlaw16.BacklogUnpacks", spec := "backlogUnpacks", unfollowed := true, recurses := true, apart := false }
def BacklogUnpacksSaid : Prop := backlogUnpacksRow.holds Try.pinned (OpenSpec.ofChange backlogUnpacksSpec)

/-- ITS FALSE NEIGHBOUR: 'it returns false'. Refute it at one input. -/
def backlogUnpacksWrong : ChangeSpec := { name := "backlogUnpacks", fn := fun _ => fun
  | [d] => { results := [.lit (.bool false)], args := [d] }
  | _ => none }
def BacklogUnpacksWrongFalsely : Prop := backlogUnpacksRow.holds Try.pinned (OpenSpec.ofChange backlogUnpacksWrong)

/-- 'entrepotlaw16.BacklogPacks': WHATEVER THE INPUT: true; the input reads as it did. -/
def backlogPacksSpec : ChangeSpec := { name := "backlogPacks", fn := fun _ => fun
  | [d] => { results := [.lit (.bool true)], args := [d] }
  | _ => none }
def backlogPacksRow : OpenClaim := { program := "ytglfbihdbdcgiaa", sum := "a7fabef314af002ae27510e8d319dc22e9f351b56c45be0fddc4758e6f2cf563", func := "entrepot/entrepotlaw16.BacklogPacks", spec := "backlogPacks", unfollowed := true, recurses := true, apart := false }
def BacklogPacksSaid : Prop := backlogPacksRow.holds Try.pinned (OpenSpec.ofChange backlogPacksSpec)

/-- ITS FALSE NEIGHBOUR: 'it returns false'. Refute it at one input. -/
def backlogPacksWrong : ChangeSpec := { name := "backlogPacks", fn := fun _ => fun
  | [d] => { results := [.lit (.bool false)], args := [d] }
  | _ => none }
def BacklogPacksWrongFalsely : Prop := backlogPacksRow.holds Try.pinned (OpenSpec.ofChange backlogPacksWrong)

/- THE SECOND FORM. 'bulk': how many values and letters a reading holds, each counted each time it is reached (what is shared counts as often as it is met; a slice's spare places count too). A statement '..UptoSaid' is the law's where the arguments, and the package variables that the reading takes, are together of bulk at most 1048576: NARROWER than '..Said'. Prove '..Said' where nothing that the law and all that it calls make is longer than what came in: it says more and counts as full. Else prove '..UptoSaid'. A law counts once. -/
mutual
def uptoBulk {H : Type} : DataW H → Nat
  | .lit (.string bytes) => bytes.length + 1
  | .lit _ => 1
  | .nil => 1
  | .ptr d => uptoBulk d + 1
  | .slice elems spare => uptoBulkAll elems + uptoBulkAll spare + 1
  | .agg parts => uptoBulkAll parts + 1
  | .iface _ d => uptoBulk d + 1
  | .map entries => uptoBulkEntries entries + 1
  | .held _ => 1
def uptoBulkAll {H : Type} : List (DataW H) → Nat
  | [] => 0
  | d :: r => uptoBulk d + uptoBulkAll r
def uptoBulkEntries {H : Type} : List (Lit × DataW H) → Nat
  | [] => 0
  | x :: r => uptoBulkEntry x + uptoBulkEntries r
def uptoBulkEntry {H : Type} : Lit × DataW H → Nat
  | (.string bytes, d) => bytes.length + uptoBulk d + 1
  | (_, d) => uptoBulk d + 1
 end
def uptoSmall : (H : Type) → List (DataW H) → Bool := fun _ ds => decide (uptoBulkAll ds ≤ 1048576)
def OpenSpec.upto (s : _root_.Go.ChangeSpec) : _root_.Go.OpenSpec := { _root_.Go.OpenSpec.ofChange s with cond := some uptoSmall }

/-- 'entrepotlaw16.BacklogFair', WHERE WHAT IT READS IS OF BULK AT MOST 1048576: true; the input reads as it did. -/
def backlogFairUptoRow : OpenClaim := { program := "ytglfbihdbdcgiaa", sum := "a7fabef314af002ae27510e8d319dc22e9f351b56c45be0fddc4758e6f2cf563", func := "entrepot/entrepotlaw16.BacklogFair", spec := "backlogFair", unfollowed := true, recurses := true, apart := false, narrowed := true }
def BacklogFairUptoSaid : Prop := backlogFairUptoRow.holds Try.pinned (OpenSpec.upto backlogFairSpec)

/-- 'entrepotlaw16.BacklogAll', WHERE WHAT IT READS IS OF BULK AT MOST 1048576: true; the input reads as it did. -/
def backlogAllUptoRow : OpenClaim := { program := "ytglfbihdbdcgiaa", sum := "a7fabef314af002ae27510e8d319dc22e9f351b56c45be0fddc4758e6f2cf563", func := "entrepot/entrepotlaw16.BacklogAll", spec := "backlogAll", unfollowed := true, recurses := true, apart := false, narrowed := true }
def BacklogAllUptoSaid : Prop := backlogAllUptoRow.holds Try.pinned (OpenSpec.upto backlogAllSpec)

/-- 'entrepotlaw16.BacklogFull', WHERE WHAT IT READS IS OF BULK AT MOST 1048576: true; the input reads as it did. -/
def backlogFullUptoRow : OpenClaim := { program := "ytglfbihdbdcgiaa", sum := "a7fabef314af002ae27510e8d319dc22e9f351b56c45be0fddc4758e6f2cf563", func := "entrepot/entrepotlaw16.BacklogFull", spec := "backlogFull", unfollowed := true, recurses := true, apart := false, narrowed := true }
def BacklogFullUptoSaid : Prop := backlogFullUptoRow.holds Try.pinned (OpenSpec.upto backlogFullSpec)

/-- 'entrepotlaw16.BacklogDoes', WHERE WHAT IT READS IS OF BULK AT MOST 1048576: true; the input reads as it did. -/
def backlogDoesUptoRow : OpenClaim := { program := "ytglfbihdbdcgiaa", sum := "a7fabef314af002ae27510e8d319dc22e9f351b56c45be0fddc4758e6f2cf563", func := "entrepot/entrepotlaw16.BacklogDoes", spec := "backlogDoes", unfollowed := true, recurses := true, apart := false, narrowed := true }
def BacklogDoesUptoSaid : Prop := backlogDoesUptoRow.holds Try.pinned (OpenSpec.upto backlogDoesSpec)

/-- 'entrepotlaw16.BacklogNobody', WHERE WHAT IT READS IS OF BULK AT MOST 1048576: true; the input reads as it did. -/
def backlogNobodyUptoRow : OpenClaim := { program := "ytglfbihdbdcgiaa", sum := "a7fabef314af002ae27510e8d319dc22e9f351b56c45be0fddc4758e6f2cf563", func := "entrepot/entrepotlaw16.BacklogNobody", spec := "backlogNobody", unfollowed := true, recurses := true, apart := false, narrowed := true }
def BacklogNobodyUptoSaid : Prop := backlogNobodyUptoRow.holds Try.pinned (OpenSpec.upto backlogNobodySpec)

/-- 'entrepotlaw16.BacklogUnpacks', WHERE WHAT IT READS IS OF BULK AT MOST 1048576: true; the input reads as it did. -/
def backlogUnpacksUptoRow : OpenClaim := { program := "ytglfbihdbdcgiaa", sum := "a7fabef314af002ae27510e8d319dc22e9f351b56c45be0fddc4758e6f2cf563", func := "entrepot/entrepotlaw16.BacklogUnpacks", spec := "backlogUnpacks", unfollowed := true, recurses := true, apart := false, narrowed := true }
def BacklogUnpacksUptoSaid : Prop := backlogUnpacksUptoRow.holds Try.pinned (OpenSpec.upto backlogUnpacksSpec)

/-- 'entrepotlaw16.BacklogPacks', WHERE WHAT IT READS IS OF BULK AT MOST 1048576: true; the input reads as it did. -/
def backlogPacksUptoRow : OpenClaim := { program := "ytglfbihdbdcgiaa", sum := "a7fabef314af002ae27510e8d319dc22e9f351b56c45be0fddc4758e6f2cf563", func := "entrepot/entrepotlaw16.BacklogPacks", spec := "backlogPacks", unfollowed := true, recurses := true, apart := false, narrowed := true }
def BacklogPacksUptoSaid : Prop := backlogPacksUptoRow.holds Try.pinned (OpenSpec.upto backlogPacksSpec)

end Rows
end Go.Proofs.Ytglfbihdbdcgiaa

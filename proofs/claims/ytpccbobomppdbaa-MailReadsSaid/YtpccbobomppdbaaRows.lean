/-
  No cell of these rows narrows 'for every input' (looked for: loops, veiled, ifaces, maps, wideKeys, modest, calm, conditions, laid).
  DERIVED. THE GIVEN ROWS OF THIS SEAT. 4 by the template 'for every input the law returns true; each argument reads behind the call as it read before'; 0 by the template 'total and deterministic' (their statements: YtpccbobomppdbaaTotals.lean).
  GIVEN WITH THE SEED: the statements are not yours to turn. If you find one false, say at which input.
  Laid BY PROGRAM, IN A SANDBOX (cutbox-rows.mjs): the forced cells as the released guide's own fill.sh prints them over the translation ef126d7051da12f2… (all of the seat's roots in one cut). By AI agents, Wed Nov 11 2026. No macro, syntax, notation, axiom, sorry.
-/
import Derived.Test.YtpccbobomppdbaaChecked
import GoSem.Claim
import GoSem.ClaimJoined
import GoSem.ClaimMapViews
import Derived.JoinedTies
import Derived.KernelRfl
namespace Go.Proofs.Ytpccbobomppdbaa
/- THE CELL 'sum', in the pinned program and in every row, IS THE sha256 OF THE DUMP (.gsa) THAT YtpccbobomppdbaaProg.lean LOADS. Nothing in Lean hashes anything: it is a label: what it is worth is what the hold of that sum in a sandbox is worth. -/
noncomputable def Try.pinned : Pinned := { name := "ytpccbobomppdbaa", sum := "ef126d7051da12f29339bc3c7a6cfc0436e145cbfdc72b1abff619289ff5975d", checked := Try.checked }
namespace Rows
def none {H : Type} : Left H := { results := [], args := [] }

/-- 'entrepotlaw13.MailSame': WHATEVER THE INPUT: true; the input reads as it did. -/
def mailSameSpec : ChangeSpec := { name := "mailSame", fn := fun _ => fun
  | [d1, d2] => { results := [.lit (.bool true)], args := [d1, d2] }
  | _ => none }
def mailSameRow : OpenClaim := { program := "ytpccbobomppdbaa", sum := "ef126d7051da12f29339bc3c7a6cfc0436e145cbfdc72b1abff619289ff5975d", func := "entrepot/entrepotlaw13.MailSame", spec := "mailSame", inPlace := ["internal/bytealg.IndexByteString", "internal/bytealg.IndexString"], unfollowed := true, recurses := true, named := ["internal/bytealg.MaxLen"], apart := false }
def MailSameSaid : Prop := mailSameRow.holds Try.pinned (OpenSpec.ofChange mailSameSpec)

/-- ITS FALSE NEIGHBOUR: 'it returns false'. Refute it at one input. -/
def mailSameWrong : ChangeSpec := { name := "mailSame", fn := fun _ => fun
  | [d1, d2] => { results := [.lit (.bool false)], args := [d1, d2] }
  | _ => none }
def MailSameWrongFalsely : Prop := mailSameRow.holds Try.pinned (OpenSpec.ofChange mailSameWrong)

/-- 'entrepotlaw13.MailKinds': WHATEVER THE INPUT: true; the input reads as it did. -/
def mailKindsSpec : ChangeSpec := { name := "mailKinds", fn := fun _ => fun
  | [d] => { results := [.lit (.bool true)], args := [d] }
  | _ => none }
def mailKindsRow : OpenClaim := { program := "ytpccbobomppdbaa", sum := "ef126d7051da12f29339bc3c7a6cfc0436e145cbfdc72b1abff619289ff5975d", func := "entrepot/entrepotlaw13.MailKinds", spec := "mailKinds", inPlace := ["internal/bytealg.IndexByteString", "internal/bytealg.IndexString"], unfollowed := true, recurses := true, named := ["internal/bytealg.MaxLen"], apart := false }
def MailKindsSaid : Prop := mailKindsRow.holds Try.pinned (OpenSpec.ofChange mailKindsSpec)

/-- ITS FALSE NEIGHBOUR: 'it returns false'. Refute it at one input. -/
def mailKindsWrong : ChangeSpec := { name := "mailKinds", fn := fun _ => fun
  | [d] => { results := [.lit (.bool false)], args := [d] }
  | _ => none }
def MailKindsWrongFalsely : Prop := mailKindsRow.holds Try.pinned (OpenSpec.ofChange mailKindsWrong)

/-- 'entrepotlaw13.MailCodes': WHATEVER THE INPUT: true; the input reads as it did. -/
def mailCodesSpec : ChangeSpec := { name := "mailCodes", fn := fun _ => fun
  | [d] => { results := [.lit (.bool true)], args := [d] }
  | _ => none }
def mailCodesRow : OpenClaim := { program := "ytpccbobomppdbaa", sum := "ef126d7051da12f29339bc3c7a6cfc0436e145cbfdc72b1abff619289ff5975d", func := "entrepot/entrepotlaw13.MailCodes", spec := "mailCodes", inPlace := ["internal/bytealg.IndexByteString", "internal/bytealg.IndexString"], unfollowed := true, recurses := true, named := ["internal/bytealg.MaxLen"], apart := false }
def MailCodesSaid : Prop := mailCodesRow.holds Try.pinned (OpenSpec.ofChange mailCodesSpec)

/-- ITS FALSE NEIGHBOUR: 'it returns false'. Refute it at one input. -/
def mailCodesWrong : ChangeSpec := { name := "mailCodes", fn := fun _ => fun
  | [d] => { results := [.lit (.bool false)], args := [d] }
  | _ => none }
def MailCodesWrongFalsely : Prop := mailCodesRow.holds Try.pinned (OpenSpec.ofChange mailCodesWrong)

/-- 'entrepotlaw13.MailReads': WHATEVER THE INPUT: true; the input reads as it did. -/
def mailReadsSpec : ChangeSpec := { name := "mailReads", fn := fun _ => fun
  | [d] => { results := [.lit (.bool true)], args := [d] }
  | _ => none }
def mailReadsRow : OpenClaim := { program := "ytpccbobomppdbaa", sum := "ef126d7051da12f29339bc3c7a6cfc0436e145cbfdc72b1abff619289ff5975d", func := "entrepot/entrepotlaw13.MailReads", spec := "mailReads", inPlace := ["internal/bytealg.IndexByteString", "internal/bytealg.IndexString"], unfollowed := true, recurses := true, named := ["internal/bytealg.MaxLen"], apart := false }
def MailReadsSaid : Prop := mailReadsRow.holds Try.pinned (OpenSpec.ofChange mailReadsSpec)

/-- ITS FALSE NEIGHBOUR: 'it returns false'. Refute it at one input. -/
def mailReadsWrong : ChangeSpec := { name := "mailReads", fn := fun _ => fun
  | [d] => { results := [.lit (.bool false)], args := [d] }
  | _ => none }
def MailReadsWrongFalsely : Prop := mailReadsRow.holds Try.pinned (OpenSpec.ofChange mailReadsWrong)

/- THE SECOND FORM. 'bulk': how many values and letters a reading holds, each counted each time it is reached (what is shared counts as often as it is met; a slice's spare places count too). A statement '..UptoSaid' is the law's where the arguments, and the package variables that the reading takes, are together of bulk at most 1048576: NARROWER than '..Said'. Prove '..Said' where nothing that the law and all that it calls make is longer than what came in: it says more and counts as full. Else prove '..UptoSaid'. A law counts once. -/
mutual
def uptoBulk {H : Type} : DataW H → Nat
  | .lit (.string bytes) => bytes.length + 1
  | .lit _ => 1
  | .nil => 1
  | .ptr d => uptoBulk d + 1
  | .slice elems spare => uptoBulkAll elems + uptoBulkAll spare + 1
  | .agg parts => uptoBulkAll parts + 1
  | .iface _ d => uptoBulk d + 1
  | .map entries => uptoBulkEntries entries + 1
  | .held _ => 1
def uptoBulkAll {H : Type} : List (DataW H) → Nat
  | [] => 0
  | d :: r => uptoBulk d + uptoBulkAll r
def uptoBulkEntries {H : Type} : List (Lit × DataW H) → Nat
  | [] => 0
  | x :: r => uptoBulkEntry x + uptoBulkEntries r
def uptoBulkEntry {H : Type} : Lit × DataW H → Nat
  | (.string bytes, d) => bytes.length + uptoBulk d + 1
  | (_, d) => uptoBulk d + 1
 end
def uptoSmall : (H : Type) → List (DataW H) → Bool := fun _ ds => decide (uptoBulkAll ds ≤ 1048576)
def OpenSpec.upto (s : _root_.Go.ChangeSpec) : _root_.Go.OpenSpec := { _root_.Go.OpenSpec.ofChange s with cond := some uptoSmall }

/-- 'entrepotlaw13.MailSame', WHERE WHAT IT READS IS OF BULK AT MOST 1048576: true; the input reads as it did. -/
def mailSameUptoRow : OpenClaim := { program := "ytpccbobomppdbaa", sum := "ef126d7051da12f29339bc3c7a6cfc0436e145cbfdc72b1abff619289ff5975d", func := "entrepot/entrepotlaw13.MailSame", spec := "mailSame", inPlace := ["internal/bytealg.IndexByteString", "internal/bytealg.IndexString"], unfollowed := true, recurses := true, named := ["internal/bytealg.MaxLen"], apart := false, narrowed := true }
def MailSameUptoSaid : Prop := mailSameUptoRow.holds Try.pinned (OpenSpec.upto mailSameSpec)

/-- 'entrepotlaw13.MailKinds', WHERE WHAT IT READS IS OF BULK AT MOST 1048576: true; the input reads as it did. -/
def mailKindsUptoRow : OpenClaim := { program := "ytpccbobomppdbaa", sum := "ef126d7051da12f29339bc3c7a6cfc0436e145cbfdc72b1abff619289ff5975d", func := "entrepot/entrepotlaw13.MailKinds", spec := "mailKinds", inPlace := ["internal/bytealg.IndexByteString", "internal/bytealg.IndexString"], unfollowed := true, recurses := true, named := ["internal/bytealg.MaxLen"], apart := false, narrowed := true }
def MailKindsUptoSaid : Prop := mailKindsUptoRow.holds Try.pinned (OpenSpec.upto mailKindsSpec)

/-- 'entrepotlaw13.MailCodes', WHERE WHAT IT READS IS OF BULK AT MOST 1048576: true; the input reads as it did. -/
def mailCodesUptoRow : OpenClaim := { program := "ytpccbobomppdbaa", sum := "ef126d7051da12f29339bc3c7a6cfc0436e145cbfdc72b1abff619289ff5975d", func := "entrepot/entrepotlaw13.MailCodes", spec := "mailCodes", inPlace := ["internal/bytealg.IndexByteString", "internal/bytealg.IndexString"], unfollowed := true, recurses := true, named := ["internal/bytealg.MaxLen"], apart := false, narrowed := true }
def MailCodesUptoSaid : Prop := mailCodesUptoRow.holds Try.pinned (OpenSpec.upto mailCodesSpec)

/-- 'entrepotlaw13.MailReads', WHERE WHAT IT READS IS OF BULK AT MOST 1048576: true; the input reads as it did. -/
def mailReadsUptoRow : OpenClaim := { program := "ytpccbobomppdbaa", sum := "ef126d7051da12f29339bc3c7a6cfc0436e145cbfdc72b1abff619289ff5975d", func := "entrepot/entrepotlaw13.MailReads", spec := "mailReads", inPlace := ["internal/bytealg.IndexByteString", "internal/bytealg.IndexString"], unfollowed := true, recurses := true, named := ["internal/bytealg.MaxLen"], apart := false, narrowed := true }
def MailReadsUptoSaid : Prop := mailReadsUptoRow.holds Try.pinned (OpenSpec.upto mailReadsSpec)

end Rows
end Go.Proofs.Ytpccbobomppdbaa

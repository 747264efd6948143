/- What plan answers about the small order of the law's lives. -/
import Derived.Test.YtlcnkicmepcppaaPFew
namespace Go.Proofs.Ytlcnkicmepcppaa
open Go.RowKit

def gA : ByteArray := ⟨#[97]⟩
def wantL : List It := [⟨gA, 5⟩]
def offersL : List (List It) := [[⟨gA, 3⟩], [⟨gA, 9⟩]]
theorem live_split : splitR wantL offersL = ([[⟨gA, 3⟩], [⟨gA, 2⟩]], []) := by kernel_rfl
theorem live_few : fewP wantL offersL = [1] := by kernel_rfl
theorem live_vis : visitS 2 3 = [2, 0, 1] := by kernel_rfl
theorem live_en : enoughR wantL offersL = true := by kernel_rfl
theorem live_miss : (splitR wantL [[⟨gA, 3⟩]]).2 = [⟨gA, 2⟩] := by kernel_rfl
end Go.Proofs.Ytlcnkicmepcppaa

/-
  No cell of these rows narrows 'for every input' (looked for: loops, veiled, ifaces, maps, wideKeys, modest, calm, conditions, laid).
  DERIVED. THE GIVEN ROWS OF THIS SEAT. 8 by the template 'for every input the law returns true; each argument reads behind the call as it read before'; 0 by the template 'total and deterministic' (their statements: YtjgjgkcboigocaaTotals.lean).
  GIVEN WITH THE SEED: the statements are not yours to turn. If you find one false, say at which input.
  Laid BY PROGRAM, IN A SANDBOX (cutbox-rows.mjs): the forced cells as the released guide's own fill.sh prints them over the translation a47561019dd51c1a… (all of the seat's roots in one cut). By AI agents, Wed Nov 11 2026. No macro, syntax, notation, axiom, sorry.
-/
import Derived.Test.YtjgjgkcboigocaaChecked
import GoSem.Claim
import GoSem.ClaimJoined
import GoSem.ClaimMapViews
import Derived.JoinedTies
import Derived.KernelRfl
namespace Go.Proofs.Ytjgjgkcboigocaa
/- THE CELL 'sum', in the pinned program and in every row, IS THE sha256 OF THE DUMP (.gsa) THAT YtjgjgkcboigocaaProg.lean LOADS. Nothing in Lean hashes anything: it is a label: what it is worth is what the hold of that sum in a sandbox is worth. -/
noncomputable def Try.pinned : Pinned := { name := "ytjgjgkcboigocaa", sum := "a47561019dd51c1a01db49cb183963e3fe3d0469fe16d81bf816a593588d9ff4", checked := Try.checked }
namespace Rows
def none {H : Type} : Left H := { results := [], args := [] }

/-- 'pantrylaw15.EntryClips': WHATEVER THE INPUT: true; the input reads as it did. -/
def entryClipsSpec : ChangeSpec := { name := "entryClips", fn := fun _ => fun
  | [d1, d2, d3] => { results := [.lit (.bool true)], args := [d1, d2, d3] }
  | _ => none }
def entryClipsRow : OpenClaim := { program := "ytjgjgkcboigocaa", sum := "a47561019dd51c1a01db49cb183963e3fe3d0469fe16d81bf816a593588d9ff4", func := "pantry/pantrylaw15.EntryClips", spec := "entryClips", inPlace := ["slices.overlaps[pantry/api.Entry]"], unfollowed := true, recurses := true, apart := false }
def EntryClipsSaid : Prop := entryClipsRow.holds Try.pinned (OpenSpec.ofChange entryClipsSpec)

/-- ITS FALSE NEIGHBOUR: 'it returns false'. Refute it at one input. -/
def entryClipsWrong : ChangeSpec := { name := "entryClips", fn := fun _ => fun
  | [d1, d2, d3] => { results := [.lit (.bool false)], args := [d1, d2, d3] }
  | _ => none }
def EntryClipsWrongFalsely : Prop := entryClipsRow.holds Try.pinned (OpenSpec.ofChange entryClipsWrong)

/-- 'pantrylaw15.EntryFinds': WHATEVER THE INPUT: true; the input reads as it did. -/
def entryFindsSpec : ChangeSpec := { name := "entryFinds", fn := fun _ => fun
  | [d1, d2] => { results := [.lit (.bool true)], args := [d1, d2] }
  | _ => none }
def entryFindsRow : OpenClaim := { program := "ytjgjgkcboigocaa", sum := "a47561019dd51c1a01db49cb183963e3fe3d0469fe16d81bf816a593588d9ff4", func := "pantry/pantrylaw15.EntryFinds", spec := "entryFinds", inPlace := ["slices.overlaps[pantry/api.Entry]"], unfollowed := true, recurses := true, apart := false }
def EntryFindsSaid : Prop := entryFindsRow.holds Try.pinned (OpenSpec.ofChange entryFindsSpec)

/-- ITS FALSE NEIGHBOUR: 'it returns false'. Refute it at one input. -/
def entryFindsWrong : ChangeSpec := { name := "entryFinds", fn := fun _ => fun
  | [d1, d2] => { results := [.lit (.bool false)], args := [d1, d2] }
  | _ => none }
def EntryFindsWrongFalsely : Prop := entryFindsRow.holds Try.pinned (OpenSpec.ofChange entryFindsWrong)

/-- 'pantrylaw15.EntryRights': WHATEVER THE INPUT: true; the input reads as it did. -/
def entryRightsSpec : ChangeSpec := { name := "entryRights", fn := fun _ => fun
  | [d] => { results := [.lit (.bool true)], args := [d] }
  | _ => none }
def entryRightsRow : OpenClaim := { program := "ytjgjgkcboigocaa", sum := "a47561019dd51c1a01db49cb183963e3fe3d0469fe16d81bf816a593588d9ff4", func := "pantry/pantrylaw15.EntryRights", spec := "entryRights", inPlace := ["slices.overlaps[pantry/api.Entry]"], unfollowed := true, recurses := true, apart := false }
def EntryRightsSaid : Prop := entryRightsRow.holds Try.pinned (OpenSpec.ofChange entryRightsSpec)

/-- ITS FALSE NEIGHBOUR: 'it returns false'. Refute it at one input. -/
def entryRightsWrong : ChangeSpec := { name := "entryRights", fn := fun _ => fun
  | [d] => { results := [.lit (.bool false)], args := [d] }
  | _ => none }
def EntryRightsWrongFalsely : Prop := entryRightsRow.holds Try.pinned (OpenSpec.ofChange entryRightsWrong)

/-- 'pantrylaw15.EntryInserts': WHATEVER THE INPUT: true; the input reads as it did. -/
def entryInsertsSpec : ChangeSpec := { name := "entryInserts", fn := fun _ => fun
  | [d1, d2] => { results := [.lit (.bool true)], args := [d1, d2] }
  | _ => none }
def entryInsertsRow : OpenClaim := { program := "ytjgjgkcboigocaa", sum := "a47561019dd51c1a01db49cb183963e3fe3d0469fe16d81bf816a593588d9ff4", func := "pantry/pantrylaw15.EntryInserts", spec := "entryInserts", inPlace := ["slices.overlaps[pantry/api.Entry]"], unfollowed := true, recurses := true, apart := false }
def EntryInsertsSaid : Prop := entryInsertsRow.holds Try.pinned (OpenSpec.ofChange entryInsertsSpec)

/-- ITS FALSE NEIGHBOUR: 'it returns false'. Refute it at one input. -/
def entryInsertsWrong : ChangeSpec := { name := "entryInserts", fn := fun _ => fun
  | [d1, d2] => { results := [.lit (.bool false)], args := [d1, d2] }
  | _ => none }
def EntryInsertsWrongFalsely : Prop := entryInsertsRow.holds Try.pinned (OpenSpec.ofChange entryInsertsWrong)

/-- 'pantrylaw15.EntrySpaces': WHATEVER THE INPUT: true; the input reads as it did. -/
def entrySpacesSpec : ChangeSpec := { name := "entrySpaces", fn := fun _ => fun
  | [d1, d2, d3] => { results := [.lit (.bool true)], args := [d1, d2, d3] }
  | _ => none }
def entrySpacesRow : OpenClaim := { program := "ytjgjgkcboigocaa", sum := "a47561019dd51c1a01db49cb183963e3fe3d0469fe16d81bf816a593588d9ff4", func := "pantry/pantrylaw15.EntrySpaces", spec := "entrySpaces", inPlace := ["slices.overlaps[pantry/api.Entry]"], unfollowed := true, recurses := true, apart := false }
def EntrySpacesSaid : Prop := entrySpacesRow.holds Try.pinned (OpenSpec.ofChange entrySpacesSpec)

/-- ITS FALSE NEIGHBOUR: 'it returns false'. Refute it at one input. -/
def entrySpacesWrong : ChangeSpec := { name := "entrySpaces", fn := fun _ => fun
  | [d1, d2, d3] => { results := [.lit (.bool false)], args := [d1, d2, d3] }
  | _ => none }
def EntrySpacesWrongFalsely : Prop := entrySpacesRow.holds Try.pinned (OpenSpec.ofChange entrySpacesWrong)

/-- 'pantrylaw15.EntryCuts': WHATEVER THE INPUT: true; the input reads as it did. -/
def entryCutsSpec : ChangeSpec := { name := "entryCuts", fn := fun _ => fun
  | [d1, d2, d3] => { results := [.lit (.bool true)], args := [d1, d2, d3] }
  | _ => none }
def entryCutsRow : OpenClaim := { program := "ytjgjgkcboigocaa", sum := "a47561019dd51c1a01db49cb183963e3fe3d0469fe16d81bf816a593588d9ff4", func := "pantry/pantrylaw15.EntryCuts", spec := "entryCuts", inPlace := ["slices.overlaps[pantry/api.Entry]"], unfollowed := true, recurses := true, apart := false }
def EntryCutsSaid : Prop := entryCutsRow.holds Try.pinned (OpenSpec.ofChange entryCutsSpec)

/-- ITS FALSE NEIGHBOUR: 'it returns false'. Refute it at one input. -/
def entryCutsWrong : ChangeSpec := { name := "entryCuts", fn := fun _ => fun
  | [d1, d2, d3] => { results := [.lit (.bool false)], args := [d1, d2, d3] }
  | _ => none }
def EntryCutsWrongFalsely : Prop := entryCutsRow.holds Try.pinned (OpenSpec.ofChange entryCutsWrong)

/-- 'pantrylaw15.EntryWholes': WHATEVER THE INPUT: true; the input reads as it did. -/
def entryWholesSpec : ChangeSpec := { name := "entryWholes", fn := fun _ => fun
  | [d1, d2, d3] => { results := [.lit (.bool true)], args := [d1, d2, d3] }
  | _ => none }
def entryWholesRow : OpenClaim := { program := "ytjgjgkcboigocaa", sum := "a47561019dd51c1a01db49cb183963e3fe3d0469fe16d81bf816a593588d9ff4", func := "pantry/pantrylaw15.EntryWholes", spec := "entryWholes", inPlace := ["slices.overlaps[pantry/api.Entry]"], unfollowed := true, recurses := true, apart := false }
def EntryWholesSaid : Prop := entryWholesRow.holds Try.pinned (OpenSpec.ofChange entryWholesSpec)

/-- ITS FALSE NEIGHBOUR: 'it returns false'. Refute it at one input. -/
def entryWholesWrong : ChangeSpec := { name := "entryWholes", fn := fun _ => fun
  | [d1, d2, d3] => { results := [.lit (.bool false)], args := [d1, d2, d3] }
  | _ => none }
def EntryWholesWrongFalsely : Prop := entryWholesRow.holds Try.pinned (OpenSpec.ofChange entryWholesWrong)

/-- 'pantrylaw15.EntrySame': WHATEVER THE INPUT: true; the input reads as it did. -/
def entrySameSpec : ChangeSpec := { name := "entrySame", fn := fun _ => fun
  | [d1, d2, d3] => { results := [.lit (.bool true)], args := [d1, d2, d3] }
  | _ => none }
def entrySameRow : OpenClaim := { program := "ytjgjgkcboigocaa", sum := "a47561019dd51c1a01db49cb183963e3fe3d0469fe16d81bf816a593588d9ff4", func := "pantry/pantrylaw15.EntrySame", spec := "entrySame", inPlace := ["slices.overlaps[pantry/api.Entry]"], unfollowed := true, recurses := true, apart := false }
def EntrySameSaid : Prop := entrySameRow.holds Try.pinned (OpenSpec.ofChange entrySameSpec)

/-- ITS FALSE NEIGHBOUR: 'it returns false'. Refute it at one input. -/
def entrySameWrong : ChangeSpec := { name := "entrySame", fn := fun _ => fun
  | [d1, d2, d3] => { results := [.lit (.bool false)], args := [d1, d2, d3] }
  | _ => none }
def EntrySameWrongFalsely : Prop := entrySameRow.holds Try.pinned (OpenSpec.ofChange entrySameWrong)

/- THE SECOND FORM. 'bulk': how many values and letters a reading holds, each counted each time it is reached (what is shared counts as often as it is met; a slice's spare places count too). A statement '..UptoSaid' is the law's where the arguments, and the package variables that the reading takes, are together of bulk at most 1048576: NARROWER than '..Said'. Prove '..Said' where nothing that the law and all that it calls make is longer than what came in: it says more and counts as full. Else prove '..UptoSaid'. A law counts once. -/
mutual
def uptoBulk {H : Type} : DataW H → Nat
  | .lit (.string bytes) => bytes.length + 1
  | .lit _ => 1
  | .nil => 1
  | .ptr d => uptoBulk d + 1
  | .slice elems spare => uptoBulkAll elems + uptoBulkAll spare + 1
  | .agg parts => uptoBulkAll parts + 1
  | .iface _ d => uptoBulk d + 1
  | .map entries => uptoBulkEntries entries + 1
  | .held _ => 1
def uptoBulkAll {H : Type} : List (DataW H) → Nat
  | [] => 0
  | d :: r => uptoBulk d + uptoBulkAll r
def uptoBulkEntries {H : Type} : List (Lit × DataW H) → Nat
  | [] => 0
  | x :: r => uptoBulkEntry x + uptoBulkEntries r
def uptoBulkEntry {H : Type} : Lit × DataW H → Nat
  | (.string bytes, d) => bytes.length + uptoBulk d + 1
  | (_, d) => uptoBulk d + 1
 end
def uptoSmall : (H : Type) → List (DataW H) → Bool := fun _ ds => decide (uptoBulkAll ds ≤ 1048576)
def OpenSpec.upto (s : _root_.Go.ChangeSpec) : _root_.Go.OpenSpec := { _root_.Go.OpenSpec.ofChange s with cond := some uptoSmall }

/-- 'pantrylaw15.EntryClips', WHERE WHAT IT READS IS OF BULK AT MOST 1048576: true; the input reads as it did. -/
def entryClipsUptoRow : OpenClaim := { program := "ytjgjgkcboigocaa", sum := "a47561019dd51c1a01db49cb183963e3fe3d0469fe16d81bf816a593588d9ff4", func := "pantry/pantrylaw15.EntryClips", spec := "entryClips", inPlace := ["slices.overlaps[pantry/api.Entry]"], unfollowed := true, recurses := true, apart := false, narrowed := true }
def EntryClipsUptoSaid : Prop := entryClipsUptoRow.holds Try.pinned (OpenSpec.upto entryClipsSpec)

/-- 'pantrylaw15.EntryFinds', WHERE WHAT IT READS IS OF BULK AT MOST 1048576: true; the input reads as it did. -/
def entryFindsUptoRow : OpenClaim := { program := "ytjgjgkcboigocaa", sum := "a47561019dd51c1a01db49cb183963e3fe3d0469fe16d81bf816a593588d9ff4", func := "pantry/pantrylaw15.EntryFinds", spec := "entryFinds", inPlace := ["slices.overlaps[pantry/api.Entry]"], unfollowed := true, recurses := true, apart := false, narrowed := true }
def EntryFindsUptoSaid : Prop := entryFindsUptoRow.holds Try.pinned (OpenSpec.upto entryFindsSpec)

/-- 'pantrylaw15.EntryRights', WHERE WHAT IT READS IS OF BULK AT MOST 1048576: true; the input reads as it did. -/
def entryRightsUptoRow : OpenClaim := { program := "ytjgjgkcboigocaa", sum := "a47561019dd51c1a01db49cb183963e3fe3d0469fe16d81bf816a593588d9ff4", func := "pantry/pantrylaw15.EntryRights", spec := "entryRights", inPlace := ["slices.overlaps[pantry/api.Entry]"], unfollowed := true, recurses := true, apart := false, narrowed := true }
def EntryRightsUptoSaid : Prop := entryRightsUptoRow.holds Try.pinned (OpenSpec.upto entryRightsSpec)

/-- 'pantrylaw15.EntryInserts', WHERE WHAT IT READS IS OF BULK AT MOST 1048576: true; the input reads as it did. -/
def entryInsertsUptoRow : OpenClaim := { program := "ytjgjgkcboigocaa", sum := "a47561019dd51c1a01db49cb183963e3fe3d0469fe16d81bf816a593588d9ff4", func := "pantry/pantrylaw15.EntryInserts", spec := "entryInserts", inPlace := ["slices.overlaps[pantry/api.Entry]"], unfollowed := true, recurses := true, apart := false, narrowed := true }
def EntryInsertsUptoSaid : Prop := entryInsertsUptoRow.holds Try.pinned (OpenSpec.upto entryInsertsSpec)

/-- 'pantrylaw15.EntrySpaces', WHERE WHAT IT READS IS OF BULK AT MOST 1048576: true; the input reads as it did. -/
def entrySpacesUptoRow : OpenClaim := { program := "ytjgjgkcboigocaa", sum := "a47561019dd51c1a01db49cb183963e3fe3d0469fe16d81bf816a593588d9ff4", func := "pantry/pantrylaw15.EntrySpaces", spec := "entrySpaces", inPlace := ["slices.overlaps[pantry/api.Entry]"], unfollowed := true, recurses := true, apart := false, narrowed := true }
def EntrySpacesUptoSaid : Prop := entrySpacesUptoRow.holds Try.pinned (OpenSpec.upto entrySpacesSpec)

/-- 'pantrylaw15.EntryCuts', WHERE WHAT IT READS IS OF BULK AT MOST 1048576: true; the input reads as it did. -/
def entryCutsUptoRow : OpenClaim := { program := "ytjgjgkcboigocaa", sum := "a47561019dd51c1a01db49cb183963e3fe3d0469fe16d81bf816a593588d9ff4", func := "pantry/pantrylaw15.EntryCuts", spec := "entryCuts", inPlace := ["slices.overlaps[pantry/api.Entry]"], unfollowed := true, recurses := true, apart := false, narrowed := true }
def EntryCutsUptoSaid : Prop := entryCutsUptoRow.holds Try.pinned (OpenSpec.upto entryCutsSpec)

/-- 'pantrylaw15.EntryWholes', WHERE WHAT IT READS IS OF BULK AT MOST 1048576: true; the input reads as it did. -/
def entryWholesUptoRow : OpenClaim := { program := "ytjgjgkcboigocaa", sum := "a47561019dd51c1a01db49cb183963e3fe3d0469fe16d81bf816a593588d9ff4", func := "pantry/pantrylaw15.EntryWholes", spec := "entryWholes", inPlace := ["slices.overlaps[pantry/api.Entry]"], unfollowed := true, recurses := true, apart := false, narrowed := true }
def EntryWholesUptoSaid : Prop := entryWholesUptoRow.holds Try.pinned (OpenSpec.upto entryWholesSpec)

/-- 'pantrylaw15.EntrySame', WHERE WHAT IT READS IS OF BULK AT MOST 1048576: true; the input reads as it did. -/
def entrySameUptoRow : OpenClaim := { program := "ytjgjgkcboigocaa", sum := "a47561019dd51c1a01db49cb183963e3fe3d0469fe16d81bf816a593588d9ff4", func := "pantry/pantrylaw15.EntrySame", spec := "entrySame", inPlace := ["slices.overlaps[pantry/api.Entry]"], unfollowed := true, recurses := true, apart := false, narrowed := true }
def EntrySameUptoSaid : Prop := entrySameUptoRow.holds Try.pinned (OpenSpec.upto entrySameSpec)

end Rows
end Go.Proofs.Ytjgjgkcboigocaa

/-
  No cell of these rows narrows 'for every input' (looked for: loops, veiled, ifaces, maps, wideKeys, modest, calm, conditions, laid).
  DERIVED. THE GIVEN ROWS OF THIS SEAT. 6 by the template 'for every input the law returns true; each argument reads behind the call as it read before'; 0 by the template 'total and deterministic' (their statements: YtalinhpdibdlkaaTotals.lean).
  GIVEN WITH THE SEED: the statements are not yours to turn. If you find one false, say at which input.
  Laid BY PROGRAM, IN A SANDBOX (cutbox-rows.mjs): the forced cells as the released guide's own fill.sh prints them over the translation 4a0c56210661ae62… (all of the seat's roots in one cut). By AI agents, Wed Nov 11 2026. No macro, syntax, notation, axiom, sorry.
-/
import Derived.Test.YtalinhpdibdlkaaChecked
import GoSem.Claim
import GoSem.ClaimJoined
import GoSem.ClaimMapViews
import Derived.JoinedTies
import Derived.KernelRfl
namespace Go.Proofs.Ytalinhpdibdlkaa
/- THE CELL 'sum', in the pinned program and in every row, IS THE sha256 OF THE DUMP (.gsa) THAT YtalinhpdibdlkaaProg.lean LOADS. Nothing in Lean hashes anything: it is a label: what it is worth is what the hold of that sum in a sandbox is worth. -/
noncomputable def Try.pinned : Pinned := { name := "ytalinhpdibdlkaa", sum := "4a0c56210661ae62794c241e6da4f3b73033cc84ef1fe37d30f4d8b9246b1c9b", checked := Try.checked }
namespace Rows
def none {H : Type} : Left H := { results := [], args := [] }

/-- 'pantrylaw12.AnonLowest': WHATEVER THE INPUT: true; the input reads as it did. -/
def anonLowestSpec : ChangeSpec := { name := "anonLowest", fn := fun _ => fun
  | [d] => { results := [.lit (.bool true)], args := [d] }
  | _ => none }
def anonLowestRow : OpenClaim := { program := "ytalinhpdibdlkaa", sum := "4a0c56210661ae62794c241e6da4f3b73033cc84ef1fe37d30f4d8b9246b1c9b", func := "pantry/pantrylaw12.AnonLowest", spec := "anonLowest", unfollowed := true, recurses := true, apart := false }
def AnonLowestSaid : Prop := anonLowestRow.holds Try.pinned (OpenSpec.ofChange anonLowestSpec)

/-- ITS FALSE NEIGHBOUR: 'it returns false'. Refute it at one input. -/
def anonLowestWrong : ChangeSpec := { name := "anonLowest", fn := fun _ => fun
  | [d] => { results := [.lit (.bool false)], args := [d] }
  | _ => none }
def AnonLowestWrongFalsely : Prop := anonLowestRow.holds Try.pinned (OpenSpec.ofChange anonLowestWrong)

/-- 'pantrylaw12.AnonCounts': WHATEVER THE INPUT: true; the input reads as it did. -/
def anonCountsSpec : ChangeSpec := { name := "anonCounts", fn := fun _ => fun
  | [d1, d2] => { results := [.lit (.bool true)], args := [d1, d2] }
  | _ => none }
def anonCountsRow : OpenClaim := { program := "ytalinhpdibdlkaa", sum := "4a0c56210661ae62794c241e6da4f3b73033cc84ef1fe37d30f4d8b9246b1c9b", func := "pantry/pantrylaw12.AnonCounts", spec := "anonCounts", unfollowed := true, recurses := true, apart := false }
def AnonCountsSaid : Prop := anonCountsRow.holds Try.pinned (OpenSpec.ofChange anonCountsSpec)

/-- ITS FALSE NEIGHBOUR: 'it returns false'. Refute it at one input. -/
def anonCountsWrong : ChangeSpec := { name := "anonCounts", fn := fun _ => fun
  | [d1, d2] => { results := [.lit (.bool false)], args := [d1, d2] }
  | _ => none }
def AnonCountsWrongFalsely : Prop := anonCountsRow.holds Try.pinned (OpenSpec.ofChange anonCountsWrong)

/-- 'pantrylaw12.AnonMany': WHATEVER THE INPUT: true; the input reads as it did. -/
def anonManySpec : ChangeSpec := { name := "anonMany", fn := fun _ => fun
  | [d1, d2] => { results := [.lit (.bool true)], args := [d1, d2] }
  | _ => none }
def anonManyRow : OpenClaim := { program := "ytalinhpdibdlkaa", sum := "4a0c56210661ae62794c241e6da4f3b73033cc84ef1fe37d30f4d8b9246b1c9b", func := "pantry/pantrylaw12.AnonMany", spec := "anonMany", unfollowed := true, recurses := true, apart := false }
def AnonManySaid : Prop := anonManyRow.holds Try.pinned (OpenSpec.ofChange anonManySpec)

/-- ITS FALSE NEIGHBOUR: 'it returns false'. Refute it at one input. -/
def anonManyWrong : ChangeSpec := { name := "anonMany", fn := fun _ => fun
  | [d1, d2] => { results := [.lit (.bool false)], args := [d1, d2] }
  | _ => none }
def AnonManyWrongFalsely : Prop := anonManyRow.holds Try.pinned (OpenSpec.ofChange anonManyWrong)

/-- 'pantrylaw12.AnonPlaces': WHATEVER THE INPUT: true; the input reads as it did. -/
def anonPlacesSpec : ChangeSpec := { name := "anonPlaces", fn := fun _ => fun
  | [d1, d2, d3] => { results := [.lit (.bool true)], args := [d1, d2, d3] }
  | _ => none }
def anonPlacesRow : OpenClaim := { program := "ytalinhpdibdlkaa", sum := "4a0c56210661ae62794c241e6da4f3b73033cc84ef1fe37d30f4d8b9246b1c9b", func := "pantry/pantrylaw12.AnonPlaces", spec := "anonPlaces", unfollowed := true, recurses := true, apart := false }
def AnonPlacesSaid : Prop := anonPlacesRow.holds Try.pinned (OpenSpec.ofChange anonPlacesSpec)

/-- ITS FALSE NEIGHBOUR: 'it returns false'. Refute it at one input. -/
def anonPlacesWrong : ChangeSpec := { name := "anonPlaces", fn := fun _ => fun
  | [d1, d2, d3] => { results := [.lit (.bool false)], args := [d1, d2, d3] }
  | _ => none }
def AnonPlacesWrongFalsely : Prop := anonPlacesRow.holds Try.pinned (OpenSpec.ofChange anonPlacesWrong)

/-- 'pantrylaw12.AnonActs': WHATEVER THE INPUT: true; the input reads as it did. -/
def anonActsSpec : ChangeSpec := { name := "anonActs", fn := fun _ => fun
  | [d1, d2] => { results := [.lit (.bool true)], args := [d1, d2] }
  | _ => none }
def anonActsRow : OpenClaim := { program := "ytalinhpdibdlkaa", sum := "4a0c56210661ae62794c241e6da4f3b73033cc84ef1fe37d30f4d8b9246b1c9b", func := "pantry/pantrylaw12.AnonActs", spec := "anonActs", unfollowed := true, recurses := true, apart := false }
def AnonActsSaid : Prop := anonActsRow.holds Try.pinned (OpenSpec.ofChange anonActsSpec)

/-- ITS FALSE NEIGHBOUR: 'it returns false'. Refute it at one input. -/
def anonActsWrong : ChangeSpec := { name := "anonActs", fn := fun _ => fun
  | [d1, d2] => { results := [.lit (.bool false)], args := [d1, d2] }
  | _ => none }
def AnonActsWrongFalsely : Prop := anonActsRow.holds Try.pinned (OpenSpec.ofChange anonActsWrong)

/-- 'pantrylaw12.AnonNone': WHATEVER THE INPUT: true; the input reads as it did. -/
def anonNoneSpec : ChangeSpec := { name := "anonNone", fn := fun _ => fun
  | [d] => { results := [.lit (.bool true)], args := [d] }
  | _ => none }
def anonNoneRow : OpenClaim := { program := "ytalinhpdibdlkaa", sum := "4a0c56210661ae62794c241e6da4f3b73033cc84ef1fe37d30f4d8b9246b1c9b", func := "pantry/pantrylaw12.AnonNone", spec := "anonNone", unfollowed := true, recurses := true, apart := false }
def AnonNoneSaid : Prop := anonNoneRow.holds Try.pinned (OpenSpec.ofChange anonNoneSpec)

/-- ITS FALSE NEIGHBOUR: 'it returns false'. Refute it at one input. -/
def anonNoneWrong : ChangeSpec := { name := "anonNone", fn := fun _ => fun
  | [d] => { results := [.lit (.bool false)], args := [d] }
  | _ => none }
def AnonNoneWrongFalsely : Prop := anonNoneRow.holds Try.pinned (OpenSpec.ofChange anonNoneWrong)

/- THE SECOND FORM. 'bulk': how many values and letters a reading holds, each counted each time it is reached (what is shared counts as often as it is met; a slice's spare places count too). A statement '..UptoSaid' is the law's where the arguments, and the package variables that the reading takes, are together of bulk at most 1048576: NARROWER than '..Said'. Prove '..Said' where nothing that the law and all that it calls make is longer than what came in: it says more and counts as full. Else prove '..UptoSaid'. A law counts once. -/
mutual
def uptoBulk {H : Type} : DataW H → Nat
  | .lit (.string bytes) => bytes.length + 1
  | .lit _ => 1
  | .nil => 1
  | .ptr d => uptoBulk d + 1
  | .slice elems spare => uptoBulkAll elems + uptoBulkAll spare + 1
  | .agg parts => uptoBulkAll parts + 1
  | .iface _ d => uptoBulk d + 1
  | .map entries => uptoBulkEntries entries + 1
  | .held _ => 1
def uptoBulkAll {H : Type} : List (DataW H) → Nat
  | [] => 0
  | d :: r => uptoBulk d + uptoBulkAll r
def uptoBulkEntries {H : Type} : List (Lit × DataW H) → Nat
  | [] => 0
  | x :: r => uptoBulkEntry x + uptoBulkEntries r
def uptoBulkEntry {H : Type} : Lit × DataW H → Nat
  | (.string bytes, d) => bytes.length + uptoBulk d + 1
  | (_, d) => uptoBulk d + 1
 end
def uptoSmall : (H : Type) → List (DataW H) → Bool := fun _ ds => decide (uptoBulkAll ds ≤ 1048576)
def OpenSpec.upto (s : _root_.Go.ChangeSpec) : _root_.Go.OpenSpec := { _root_.Go.OpenSpec.ofChange s with cond := some uptoSmall }

/-- 'pantrylaw12.AnonLowest', WHERE WHAT IT READS IS OF BULK AT MOST 1048576: true; the input reads as it did. -/
def anonLowestUptoRow : OpenClaim := { program := "ytalinhpdibdlkaa", sum := "4a0c56210661ae62794c241e6da4f3b73033cc84ef1fe37d30f4d8b9246b1c9b", func := "pantry/pantrylaw12.AnonLowest", spec := "anonLowest", unfollowed := true, recurses := true, apart := false, narrowed := true }
def AnonLowestUptoSaid : Prop := anonLowestUptoRow.holds Try.pinned (OpenSpec.upto anonLowestSpec)

/-- 'pantrylaw12.AnonCounts', WHERE WHAT IT READS IS OF BULK AT MOST 1048576: true; the input reads as it did. -/
def anonCountsUptoRow : OpenClaim := { program := "ytalinhpdibdlkaa", sum := "4a0c56210661ae62794c241e6da4f3b73033cc84ef1fe37d30f4d8b9246b1c9b", func := "pantry/pantrylaw12.AnonCounts", spec := "anonCounts", unfollowed := true, recurses := true, apart := false, narrowed := true }
def AnonCountsUptoSaid : Prop := anonCountsUptoRow.holds Try.pinned (OpenSpec.upto anonCountsSpec)

/-- 'pantrylaw12.AnonMany', WHERE WHAT IT READS IS OF BULK AT MOST 1048576: true; the input reads as it did. -/
def anonManyUptoRow : OpenClaim := { program := "ytalinhpdibdlkaa", sum := "4a0c56210661ae62794c241e6da4f3b73033cc84ef1fe37d30f4d8b9246b1c9b", func := "pantry/pantrylaw12.AnonMany", spec := "anonMany", unfollowed := true, recurses := true, apart := false, narrowed := true }
def AnonManyUptoSaid : Prop := anonManyUptoRow.holds Try.pinned (OpenSpec.upto anonManySpec)

/-- 'pantrylaw12.AnonPlaces', WHERE WHAT IT READS IS OF BULK AT MOST 1048576: true; the input reads as it did. -/
def anonPlacesUptoRow : OpenClaim := { program := "ytalinhpdibdlkaa", sum := "4a0c56210661ae62794c241e6da4f3b73033cc84ef1fe37d30f4d8b9246b1c9b", func := "pantry/pantrylaw12.AnonPlaces", spec := "anonPlaces", unfollowed := true, recurses := true, apart := false, narrowed := true }
def AnonPlacesUptoSaid : Prop := anonPlacesUptoRow.holds Try.pinned (OpenSpec.upto anonPlacesSpec)

/-- 'pantrylaw12.AnonActs', WHERE WHAT IT READS IS OF BULK AT MOST 1048576: true; the input reads as it did. -/
def anonActsUptoRow : OpenClaim := { program := "ytalinhpdibdlkaa", sum := "4a0c56210661ae62794c241e6da4f3b73033cc84ef1fe37d30f4d8b9246b1c9b", func := "pantry/pantrylaw12.AnonActs", spec := "anonActs", unfollowed := true, recurses := true, apart := false, narrowed := true }
def AnonActsUptoSaid : Prop := anonActsUptoRow.holds Try.pinned (OpenSpec.upto anonActsSpec)

/-- 'pantrylaw12.AnonNone', WHERE WHAT IT READS IS OF BULK AT MOST 1048576: true; the input reads as it did. -/
def anonNoneUptoRow : OpenClaim := { program := "ytalinhpdibdlkaa", sum := "4a0c56210661ae62794c241e6da4f3b73033cc84ef1fe37d30f4d8b9246b1c9b", func := "pantry/pantrylaw12.AnonNone", spec := "anonNone", unfollowed := true, recurses := true, apart := false, narrowed := true }
def AnonNoneUptoSaid : Prop := anonNoneUptoRow.holds Try.pinned (OpenSpec.upto anonNoneSpec)

end Rows
end Go.Proofs.Ytalinhpdibdlkaa

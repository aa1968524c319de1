/-
  No cell of these rows narrows 'for every input' (looked for: loops, veiled, ifaces, maps, wideKeys, modest, calm, conditions, laid).
  DERIVED. THE GIVEN ROWS OF THIS SEAT. 5 by the template 'for every input the law returns true; each argument reads behind the call as it read before'; 0 by the template 'total and deterministic' (their statements: YtopfknikmhkaeaaTotals.lean).
  GIVEN WITH THE SEED: the statements are not yours to turn. If you find one false, say at which input.
  Laid BY PROGRAM, IN A SANDBOX (cutbox-rows.mjs): the forced cells as the released guide's own fill.sh prints them over the translation 7a922e2076fcc1ae… (all of the seat's roots in one cut). By AI agents, Wed Nov 11 2026. No macro, syntax, notation, axiom, sorry.
-/
import Derived.Test.YtopfknikmhkaeaaChecked
import GoSem.Claim
import GoSem.ClaimJoined
import GoSem.ClaimMapViews
import Derived.JoinedTies
import Derived.KernelRfl
namespace Go.Proofs.Ytopfknikmhkaeaa
/- THE CELL 'sum', in the pinned program and in every row, IS THE sha256 OF THE DUMP (.gsa) THAT YtopfknikmhkaeaaProg.lean LOADS. Nothing in Lean hashes anything: it is a label: what it is worth is what the hold of that sum in a sandbox is worth. -/
noncomputable def Try.pinned : Pinned := { name := "ytopfknikmhkaeaa", sum := "7a922e2076fcc1aea9f350878e0abed53da4bdd1c0d45ce8891476c8746f9903", checked := Try.checked }
namespace Rows
def none {H : Type} : Left H := { results := [], args := [] }

/-- 'pantrylaw14.ObjectStays': WHATEVER THE INPUT: true; the input reads as it did. -/
def objectStaysSpec : ChangeSpec := { name := "objectStays", fn := fun _ => fun
  | [d1, d2] => { results := [.lit (.bool true)], args := [d1, d2] }
  | _ => none }
def objectStaysRow : OpenClaim := { program := "ytopfknikmhkaeaa", sum := "7a922e2076fcc1aea9f350878e0abed53da4bdd1c0d45ce8891476c8746f9903", func := "pantry/pantrylaw14.ObjectStays", spec := "objectStays", unfollowed := true, recurses := true, apart := false }
def ObjectStaysSaid : Prop := objectStaysRow.holds Try.pinned (OpenSpec.ofChange objectStaysSpec)

/-- ITS FALSE NEIGHBOUR: 'it returns false'. Refute it at one input. -/
def objectStaysWrong : ChangeSpec := { name := "objectStays", fn := fun _ => fun
  | [d1, d2] => { results := [.lit (.bool false)], args := [d1, d2] }
  | _ => none }
def ObjectStaysWrongFalsely : Prop := objectStaysRow.holds Try.pinned (OpenSpec.ofChange objectStaysWrong)

/-- 'pantrylaw14.ObjectFiles': WHATEVER THE INPUT: true; the input reads as it did. -/
def objectFilesSpec : ChangeSpec := { name := "objectFiles", fn := fun _ => fun
  | [d1, d2] => { results := [.lit (.bool true)], args := [d1, d2] }
  | _ => none }
def objectFilesRow : OpenClaim := { program := "ytopfknikmhkaeaa", sum := "7a922e2076fcc1aea9f350878e0abed53da4bdd1c0d45ce8891476c8746f9903", func := "pantry/pantrylaw14.ObjectFiles", spec := "objectFiles", unfollowed := true, recurses := true, apart := false }
def ObjectFilesSaid : Prop := objectFilesRow.holds Try.pinned (OpenSpec.ofChange objectFilesSpec)

/-- ITS FALSE NEIGHBOUR: 'it returns false'. Refute it at one input. -/
def objectFilesWrong : ChangeSpec := { name := "objectFiles", fn := fun _ => fun
  | [d1, d2] => { results := [.lit (.bool false)], args := [d1, d2] }
  | _ => none }
def ObjectFilesWrongFalsely : Prop := objectFilesRow.holds Try.pinned (OpenSpec.ofChange objectFilesWrong)

/-- 'pantrylaw14.ObjectPages': WHATEVER THE INPUT: true; the input reads as it did. -/
def objectPagesSpec : ChangeSpec := { name := "objectPages", fn := fun _ => fun
  | [d1, d2, d3] => { results := [.lit (.bool true)], args := [d1, d2, d3] }
  | _ => none }
def objectPagesRow : OpenClaim := { program := "ytopfknikmhkaeaa", sum := "7a922e2076fcc1aea9f350878e0abed53da4bdd1c0d45ce8891476c8746f9903", func := "pantry/pantrylaw14.ObjectPages", spec := "objectPages", unfollowed := true, recurses := true, apart := false }
def ObjectPagesSaid : Prop := objectPagesRow.holds Try.pinned (OpenSpec.ofChange objectPagesSpec)

/-- ITS FALSE NEIGHBOUR: 'it returns false'. Refute it at one input. -/
def objectPagesWrong : ChangeSpec := { name := "objectPages", fn := fun _ => fun
  | [d1, d2, d3] => { results := [.lit (.bool false)], args := [d1, d2, d3] }
  | _ => none }
def ObjectPagesWrongFalsely : Prop := objectPagesRow.holds Try.pinned (OpenSpec.ofChange objectPagesWrong)

/-- 'pantrylaw14.ObjectActs': WHATEVER THE INPUT: true; the input reads as it did. -/
def objectActsSpec : ChangeSpec := { name := "objectActs", fn := fun _ => fun
  | [d1, d2, d3] => { results := [.lit (.bool true)], args := [d1, d2, d3] }
  | _ => none }
def objectActsRow : OpenClaim := { program := "ytopfknikmhkaeaa", sum := "7a922e2076fcc1aea9f350878e0abed53da4bdd1c0d45ce8891476c8746f9903", func := "pantry/pantrylaw14.ObjectActs", spec := "objectActs", unfollowed := true, recurses := true, apart := false }
def ObjectActsSaid : Prop := objectActsRow.holds Try.pinned (OpenSpec.ofChange objectActsSpec)

/-- ITS FALSE NEIGHBOUR: 'it returns false'. Refute it at one input. -/
def objectActsWrong : ChangeSpec := { name := "objectActs", fn := fun _ => fun
  | [d1, d2, d3] => { results := [.lit (.bool false)], args := [d1, d2, d3] }
  | _ => none }
def ObjectActsWrongFalsely : Prop := objectActsRow.holds Try.pinned (OpenSpec.ofChange objectActsWrong)

/-- 'pantrylaw14.ObjectNone': WHATEVER THE INPUT: true; the input reads as it did. -/
def objectNoneSpec : ChangeSpec := { name := "objectNone", fn := fun _ => fun
  | [d] => { results := [.lit (.bool true)], args := [d] }
  | _ => none }
def objectNoneRow : OpenClaim := { program := "ytopfknikmhkaeaa", sum := "7a922e2076fcc1aea9f350878e0abed53da4bdd1c0d45ce8891476c8746f9903", func := "pantry/pantrylaw14.ObjectNone", spec := "objectNone", unfollowed := true, recurses := true, apart := false }
def ObjectNoneSaid : Prop := objectNoneRow.holds Try.pinned (OpenSpec.ofChange objectNoneSpec)

/-- ITS FALSE NEIGHBOUR: 'it returns false'. Refute it at one input. -/
def objectNoneWrong : ChangeSpec := { name := "objectNone", fn := fun _ => fun
  | [d] => { results := [.lit (.bool false)], args := [d] }
  | _ => none }
def ObjectNoneWrongFalsely : Prop := objectNoneRow.holds Try.pinned (OpenSpec.ofChange objectNoneWrong)

/- THE SECOND FORM. 'bulk': how many values and letters a reading holds, each counted each time it is reached (what is shared counts as often as it is met; a slice's spare places count too). A statement '..UptoSaid' is the law's where the arguments, and the package variables that the reading takes, are together of bulk at most 1048576: NARROWER than '..Said'. Prove '..Said' where nothing that the law and all that it calls make is longer than what came in: it says more and counts as full. Else prove '..UptoSaid'. A law counts once. -/
mutual
def uptoBulk {H : Type} : DataW H → Nat
  | .lit (.string bytes) => bytes.length + 1
  | .lit _ => 1
  | .nil => 1
  | .ptr d => uptoBulk d + 1
  | .slice elems spare => uptoBulkAll elems + uptoBulkAll spare + 1
  | .agg parts => uptoBulkAll parts + 1
  | .iface _ d => uptoBulk d + 1
  | .map entries => uptoBulkEntries entries + 1
  | .held _ => 1
def uptoBulkAll {H : Type} : List (DataW H) → Nat
  | [] => 0
  | d :: r => uptoBulk d + uptoBulkAll r
def uptoBulkEntries {H : Type} : List (Lit × DataW H) → Nat
  | [] => 0
  | x :: r => uptoBulkEntry x + uptoBulkEntries r
def uptoBulkEntry {H : Type} : Lit × DataW H → Nat
  | (.string bytes, d) => bytes.length + uptoBulk d + 1
  | (_, d) => uptoBulk d + 1
 end
def uptoSmall : (H : Type) → List (DataW H) → Bool := fun _ ds => decide (uptoBulkAll ds ≤ 1048576)
def OpenSpec.upto (s : _root_.Go.ChangeSpec) : _root_.Go.OpenSpec := { _root_.Go.OpenSpec.ofChange s with cond := some uptoSmall }

/-- 'pantrylaw14.ObjectStays', WHERE WHAT IT READS IS OF BULK AT MOST 1048576: true; the input reads as it did. -/
def objectStaysUptoRow : OpenClaim := { program := "ytopfknikmhkaeaa", sum := "7a922e2076fcc1aea9f350878e0abed53da4bdd1c0d45ce8891476c8746f9903", func := "pantry/pantrylaw14.ObjectStays", spec := "objectStays", unfollowed := true, recurses := true, apart := false, narrowed := true }
def ObjectStaysUptoSaid : Prop := objectStaysUptoRow.holds Try.pinned (OpenSpec.upto objectStaysSpec)

/-- 'pantrylaw14.ObjectFiles', WHERE WHAT IT READS IS OF BULK AT MOST 1048576: true; the input reads as it did. -/
def objectFilesUptoRow : OpenClaim := { program := "ytopfknikmhkaeaa", sum := "7a922e2076fcc1aea9f350878e0abed53da4bdd1c0d45ce8891476c8746f9903", func := "pantry/pantrylaw14.ObjectFiles", spec := "objectFiles", unfollowed := true, recurses := true, apart := false, narrowed := true }
def ObjectFilesUptoSaid : Prop := objectFilesUptoRow.holds Try.pinned (OpenSpec.upto objectFilesSpec)

/-- 'pantrylaw14.ObjectPages', WHERE WHAT IT READS IS OF BULK AT MOST 1048576: true; the input reads as it did. -/
def objectPagesUptoRow : OpenClaim := { program := "ytopfknikmhkaeaa", sum := "7a922e2076fcc1aea9f350878e0abed53da4bdd1c0d45ce8891476c8746f9903", func := "pantry/pantrylaw14.ObjectPages", spec := "objectPages", unfollowed := true, recurses := true, apart := false, narrowed := true }
def ObjectPagesUptoSaid : Prop := objectPagesUptoRow.holds Try.pinned (OpenSpec.upto objectPagesSpec)

/-- 'pantrylaw14.ObjectActs', WHERE WHAT IT READS IS OF BULK AT MOST 1048576: true; the input reads as it did. -/
def objectActsUptoRow : OpenClaim := { program := "ytopfknikmhkaeaa", sum := "7a922e2076fcc1aea9f350878e0abed53da4bdd1c0d45ce8891476c8746f9903", func := "pantry/pantrylaw14.ObjectActs", spec := "objectActs", unfollowed := true, recurses := true, apart := false, narrowed := true }
def ObjectActsUptoSaid : Prop := objectActsUptoRow.holds Try.pinned (OpenSpec.upto objectActsSpec)

/-- 'pantrylaw14.ObjectNone', WHERE WHAT IT READS IS OF BULK AT MOST 1048576: true; the input reads as it did. -/
def objectNoneUptoRow : OpenClaim := { program := "ytopfknikmhkaeaa", sum := "7a922e2076fcc1aea9f350878e0abed53da4bdd1c0d45ce8891476c8746f9903", func := "pantry/pantrylaw14.ObjectNone", spec := "objectNone", unfollowed := true, recurses := true, apart := false, narrowed := true }
def ObjectNoneUptoSaid : Prop := objectNoneUptoRow.holds Try.pinned (OpenSpec.upto objectNoneSpec)

end Rows
end Go.Proofs.Ytopfknikmhkaeaa

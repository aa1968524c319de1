/-
  No cell of these rows narrows 'for every input' (looked for: loops, veiled, ifaces, maps, wideKeys, modest, calm, conditions, laid).
  DERIVED. THE GIVEN ROWS OF THIS SEAT. 6 by the template 'for every input the law returns true; each argument reads behind the call as it read before'; 0 by the template 'total and deterministic' (their statements: YtopglbkcciigbaaTotals.lean).
  GIVEN WITH THE SEED: the statements are not yours to turn. If you find one false, say at which input.
  Laid BY PROGRAM, IN A SANDBOX (cutbox-rows.mjs): the forced cells as the released guide's own fill.sh prints them over the translation c1bba602b23f4689… (all of the seat's roots in one cut). By AI agents, Wed Nov 11 2026. No macro, syntax, notation, axiom, sorry.
-/
import Derived.Test.YtopglbkcciigbaaChecked
import GoSem.Claim
import GoSem.ClaimJoined
import GoSem.ClaimMapViews
import Derived.JoinedTies
import Derived.KernelRfl
namespace Go.Proofs.Ytopglbkcciigbaa
/- THE CELL 'sum', in the pinned program and in every row, IS THE sha256 OF THE DUMP (.gsa) THAT YtopglbkcciigbaaProg.lean LOADS. Nothing in Lean hashes anything: it is a label: what it is worth is what the hold of that sum in a sandbox is worth. -/
noncomputable def Try.pinned : Pinned := { name := "ytopglbkcciigbaa", sum := "c1bba602b23f4689cf9f3c25846ce37fde8a0f2511325e3fd11e504000cfd4fd", checked := Try.checked }
namespace Rows
def none {H : Type} : Left H := { results := [], args := [] }

/-- 'pantrylaw16.VmapHoles': WHATEVER THE INPUT: true; the input reads as it did. -/
def vmapHolesSpec : ChangeSpec := { name := "vmapHoles", fn := fun _ => fun
  | [d1, d2, d3] => { results := [.lit (.bool true)], args := [d1, d2, d3] }
  | _ => none }
def vmapHolesRow : OpenClaim := { program := "ytopglbkcciigbaa", sum := "c1bba602b23f4689cf9f3c25846ce37fde8a0f2511325e3fd11e504000cfd4fd", func := "pantry/pantrylaw16.VmapHoles", spec := "vmapHoles", inPlace := ["slices.overlaps[pantry/api.Entry]"], unfollowed := true, recurses := true, apart := false }
def VmapHolesSaid : Prop := vmapHolesRow.holds Try.pinned (OpenSpec.ofChange vmapHolesSpec)

/-- ITS FALSE NEIGHBOUR: 'it returns false'. Refute it at one input. -/
def vmapHolesWrong : ChangeSpec := { name := "vmapHoles", fn := fun _ => fun
  | [d1, d2, d3] => { results := [.lit (.bool false)], args := [d1, d2, d3] }
  | _ => none }
def VmapHolesWrongFalsely : Prop := vmapHolesRow.holds Try.pinned (OpenSpec.ofChange vmapHolesWrong)

/-- 'pantrylaw16.VmapRight': WHATEVER THE INPUT: true; the input reads as it did. -/
def vmapRightSpec : ChangeSpec := { name := "vmapRight", fn := fun _ => fun
  | [d] => { results := [.lit (.bool true)], args := [d] }
  | _ => none }
def vmapRightRow : OpenClaim := { program := "ytopglbkcciigbaa", sum := "c1bba602b23f4689cf9f3c25846ce37fde8a0f2511325e3fd11e504000cfd4fd", func := "pantry/pantrylaw16.VmapRight", spec := "vmapRight", inPlace := ["slices.overlaps[pantry/api.Entry]"], unfollowed := true, recurses := true, apart := false }
def VmapRightSaid : Prop := vmapRightRow.holds Try.pinned (OpenSpec.ofChange vmapRightSpec)

/-- ITS FALSE NEIGHBOUR: 'it returns false'. Refute it at one input. -/
def vmapRightWrong : ChangeSpec := { name := "vmapRight", fn := fun _ => fun
  | [d] => { results := [.lit (.bool false)], args := [d] }
  | _ => none }
def VmapRightWrongFalsely : Prop := vmapRightRow.holds Try.pinned (OpenSpec.ofChange vmapRightWrong)

/-- 'pantrylaw16.VmapPages': WHATEVER THE INPUT: true; the input reads as it did. -/
def vmapPagesSpec : ChangeSpec := { name := "vmapPages", fn := fun _ => fun
  | [d1, d2, d3] => { results := [.lit (.bool true)], args := [d1, d2, d3] }
  | _ => none }
def vmapPagesRow : OpenClaim := { program := "ytopglbkcciigbaa", sum := "c1bba602b23f4689cf9f3c25846ce37fde8a0f2511325e3fd11e504000cfd4fd", func := "pantry/pantrylaw16.VmapPages", spec := "vmapPages", inPlace := ["slices.overlaps[pantry/api.Entry]"], unfollowed := true, recurses := true, apart := false }
def VmapPagesSaid : Prop := vmapPagesRow.holds Try.pinned (OpenSpec.ofChange vmapPagesSpec)

/-- ITS FALSE NEIGHBOUR: 'it returns false'. Refute it at one input. -/
def vmapPagesWrong : ChangeSpec := { name := "vmapPages", fn := fun _ => fun
  | [d1, d2, d3] => { results := [.lit (.bool false)], args := [d1, d2, d3] }
  | _ => none }
def VmapPagesWrongFalsely : Prop := vmapPagesRow.holds Try.pinned (OpenSpec.ofChange vmapPagesWrong)

/-- 'pantrylaw16.VmapNone': WHATEVER THE INPUT: true; the input reads as it did. -/
def vmapNoneSpec : ChangeSpec := { name := "vmapNone", fn := fun _ => fun
  | [d] => { results := [.lit (.bool true)], args := [d] }
  | _ => none }
def vmapNoneRow : OpenClaim := { program := "ytopglbkcciigbaa", sum := "c1bba602b23f4689cf9f3c25846ce37fde8a0f2511325e3fd11e504000cfd4fd", func := "pantry/pantrylaw16.VmapNone", spec := "vmapNone", inPlace := ["slices.overlaps[pantry/api.Entry]"], unfollowed := true, recurses := true, apart := false }
def VmapNoneSaid : Prop := vmapNoneRow.holds Try.pinned (OpenSpec.ofChange vmapNoneSpec)

/-- ITS FALSE NEIGHBOUR: 'it returns false'. Refute it at one input. -/
def vmapNoneWrong : ChangeSpec := { name := "vmapNone", fn := fun _ => fun
  | [d] => { results := [.lit (.bool false)], args := [d] }
  | _ => none }
def VmapNoneWrongFalsely : Prop := vmapNoneRow.holds Try.pinned (OpenSpec.ofChange vmapNoneWrong)

/-- 'pantrylaw16.VmapFixed': WHATEVER THE INPUT: true; the input reads as it did. -/
def vmapFixedSpec : ChangeSpec := { name := "vmapFixed", fn := fun _ => fun
  | [d1, d2] => { results := [.lit (.bool true)], args := [d1, d2] }
  | _ => none }
def vmapFixedRow : OpenClaim := { program := "ytopglbkcciigbaa", sum := "c1bba602b23f4689cf9f3c25846ce37fde8a0f2511325e3fd11e504000cfd4fd", func := "pantry/pantrylaw16.VmapFixed", spec := "vmapFixed", inPlace := ["slices.overlaps[pantry/api.Entry]"], unfollowed := true, recurses := true, apart := false }
def VmapFixedSaid : Prop := vmapFixedRow.holds Try.pinned (OpenSpec.ofChange vmapFixedSpec)

/-- ITS FALSE NEIGHBOUR: 'it returns false'. Refute it at one input. -/
def vmapFixedWrong : ChangeSpec := { name := "vmapFixed", fn := fun _ => fun
  | [d1, d2] => { results := [.lit (.bool false)], args := [d1, d2] }
  | _ => none }
def VmapFixedWrongFalsely : Prop := vmapFixedRow.holds Try.pinned (OpenSpec.ofChange vmapFixedWrong)

/-- 'pantrylaw16.VmapForks': WHATEVER THE INPUT: true; the input reads as it did. -/
def vmapForksSpec : ChangeSpec := { name := "vmapForks", fn := fun _ => fun
  | [d1, d2] => { results := [.lit (.bool true)], args := [d1, d2] }
  | _ => none }
def vmapForksRow : OpenClaim := { program := "ytopglbkcciigbaa", sum := "c1bba602b23f4689cf9f3c25846ce37fde8a0f2511325e3fd11e504000cfd4fd", func := "pantry/pantrylaw16.VmapForks", spec := "vmapForks", inPlace := ["slices.overlaps[pantry/api.Entry]"], unfollowed := true, recurses := true, apart := false }
def VmapForksSaid : Prop := vmapForksRow.holds Try.pinned (OpenSpec.ofChange vmapForksSpec)

/-- ITS FALSE NEIGHBOUR: 'it returns false'. Refute it at one input. -/
def vmapForksWrong : ChangeSpec := { name := "vmapForks", fn := fun _ => fun
  | [d1, d2] => { results := [.lit (.bool false)], args := [d1, d2] }
  | _ => none }
def VmapForksWrongFalsely : Prop := vmapForksRow.holds Try.pinned (OpenSpec.ofChange vmapForksWrong)

/- THE SECOND FORM. 'bulk': how many values and letters a reading holds, each counted each time it is reached (what is shared counts as often as it is met; a slice's spare places count too). A statement '..UptoSaid' is the law's where the arguments, and the package variables that the reading takes, are together of bulk at most 1048576: NARROWER than '..Said'. Prove '..Said' where nothing that the law and all that it calls make is longer than what came in: it says more and counts as full. Else prove '..UptoSaid'. A law counts once. -/
mutual
def uptoBulk {H : Type} : DataW H → Nat
  | .lit (.string bytes) => bytes.length + 1
  | .lit _ => 1
  | .nil => 1
  | .ptr d => uptoBulk d + 1
  | .slice elems spare => uptoBulkAll elems + uptoBulkAll spare + 1
  | .agg parts => uptoBulkAll parts + 1
  | .iface _ d => uptoBulk d + 1
  | .map entries => uptoBulkEntries entries + 1
  | .held _ => 1
def uptoBulkAll {H : Type} : List (DataW H) → Nat
  | [] => 0
  | d :: r => uptoBulk d + uptoBulkAll r
def uptoBulkEntries {H : Type} : List (Lit × DataW H) → Nat
  | [] => 0
  | x :: r => uptoBulkEntry x + uptoBulkEntries r
def uptoBulkEntry {H : Type} : Lit × DataW H → Nat
  | (.string bytes, d) => bytes.length + uptoBulk d + 1
  | (_, d) => uptoBulk d + 1
 end
def uptoSmall : (H : Type) → List (DataW H) → Bool := fun _ ds => decide (uptoBulkAll ds ≤ 1048576)
def OpenSpec.upto (s : _root_.Go.ChangeSpec) : _root_.Go.OpenSpec := { _root_.Go.OpenSpec.ofChange s with cond := some uptoSmall }

/-- 'pantrylaw16.VmapHoles', WHERE WHAT IT READS IS OF BULK AT MOST 1048576: true; the input reads as it did. -/
def vmapHolesUptoRow : OpenClaim := { program := "ytopglbkcciigbaa", sum := "c1bba602b23f4689cf9f3c25846ce37fde8a0f2511325e3fd11e504000cfd4fd", func := "pantry/pantrylaw16.VmapHoles", spec := "vmapHoles", inPlace := ["slices.overlaps[pantry/api.Entry]"], unfollowed := true, recurses := true, apart := false, narrowed := true }
def VmapHolesUptoSaid : Prop := vmapHolesUptoRow.holds Try.pinned (OpenSpec.upto vmapHolesSpec)

/-- 'pantrylaw16.VmapRight', WHERE WHAT IT READS IS OF BULK AT MOST 1048576: true; the input reads as it did. -/
def vmapRightUptoRow : OpenClaim := { program := "ytopglbkcciigbaa", sum := "c1bba602b23f4689cf9f3c25846ce37fde8a0f2511325e3fd11e504000cfd4fd", func := "pantry/pantrylaw16.VmapRight", spec := "vmapRight", inPlace := ["slices.overlaps[pantry/api.Entry]"], unfollowed := true, recurses := true, apart := false, narrowed := true }
def VmapRightUptoSaid : Prop := vmapRightUptoRow.holds Try.pinned (OpenSpec.upto vmapRightSpec)

/-- 'pantrylaw16.VmapPages', WHERE WHAT IT READS IS OF BULK AT MOST 1048576: true; the input reads as it did. -/
def vmapPagesUptoRow : OpenClaim := { program := "ytopglbkcciigbaa", sum := "c1bba602b23f4689cf9f3c25846ce37fde8a0f2511325e3fd11e504000cfd4fd", func := "pantry/pantrylaw16.VmapPages", spec := "vmapPages", inPlace := ["slices.overlaps[pantry/api.Entry]"], unfollowed := true, recurses := true, apart := false, narrowed := true }
def VmapPagesUptoSaid : Prop := vmapPagesUptoRow.holds Try.pinned (OpenSpec.upto vmapPagesSpec)

/-- 'pantrylaw16.VmapNone', WHERE WHAT IT READS IS OF BULK AT MOST 1048576: true; the input reads as it did. -/
def vmapNoneUptoRow : OpenClaim := { program := "ytopglbkcciigbaa", sum := "c1bba602b23f4689cf9f3c25846ce37fde8a0f2511325e3fd11e504000cfd4fd", func := "pantry/pantrylaw16.VmapNone", spec := "vmapNone", inPlace := ["slices.overlaps[pantry/api.Entry]"], unfollowed := true, recurses := true, apart := false, narrowed := true }
def VmapNoneUptoSaid : Prop := vmapNoneUptoRow.holds Try.pinned (OpenSpec.upto vmapNoneSpec)

/-- 'pantrylaw16.VmapFixed', WHERE WHAT IT READS IS OF BULK AT MOST 1048576: true; the input reads as it did. -/
def vmapFixedUptoRow : OpenClaim := { program := "ytopglbkcciigbaa", sum := "c1bba602b23f4689cf9f3c25846ce37fde8a0f2511325e3fd11e504000cfd4fd", func := "pantry/pantrylaw16.VmapFixed", spec := "vmapFixed", inPlace := ["slices.overlaps[pantry/api.Entry]"], unfollowed := true, recurses := true, apart := false, narrowed := true }
def VmapFixedUptoSaid : Prop := vmapFixedUptoRow.holds Try.pinned (OpenSpec.upto vmapFixedSpec)

/-- 'pantrylaw16.VmapForks', WHERE WHAT IT READS IS OF BULK AT MOST 1048576: true; the input reads as it did. -/
def vmapForksUptoRow : OpenClaim := { program := "ytopglbkcciigbaa", sum := "c1bba602b23f4689cf9f3c25846ce37fde8a0f2511325e3fd11e504000cfd4fd", func := "pantry/pantrylaw16.VmapForks", spec := "vmapForks", inPlace := ["slices.overlaps[pantry/api.Entry]"], unfollowed := true, recurses := true, apart := false, narrowed := true }
def VmapForksUptoSaid : Prop := vmapForksUptoRow.holds Try.pinned (OpenSpec.upto vmapForksSpec)

end Rows
end Go.Proofs.Ytopglbkcciigbaa

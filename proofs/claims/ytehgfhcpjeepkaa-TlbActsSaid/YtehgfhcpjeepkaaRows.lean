/-
  No cell of these rows narrows 'for every input' (looked for: loops, veiled, ifaces, maps, wideKeys, modest, calm, conditions, laid).
  DERIVED. THE GIVEN ROWS OF THIS SEAT. 5 by the template 'for every input the law returns true; each argument reads behind the call as it read before'; 0 by the template 'total and deterministic' (their statements: YtehgfhcpjeepkaaTotals.lean).
  GIVEN WITH THE SEED: the statements are not yours to turn. If you find one false, say at which input.
  Laid BY PROGRAM, IN A SANDBOX (cutbox-rows.mjs): the forced cells as the released guide's own fill.sh prints them over the translation fe13c4d772c02e06… (all of the seat's roots in one cut). By AI agents, Wed Nov 11 2026. No macro, syntax, notation, axiom, sorry.
-/
import Derived.Test.YtehgfhcpjeepkaaChecked
import GoSem.Claim
import GoSem.ClaimJoined
import GoSem.ClaimMapViews
import Derived.JoinedTies
import Derived.KernelRfl
namespace Go.Proofs.Ytehgfhcpjeepkaa
/- THE CELL 'sum', in the pinned program and in every row, IS THE sha256 OF THE DUMP (.gsa) THAT YtehgfhcpjeepkaaProg.lean LOADS. Nothing in Lean hashes anything: it is a label: what it is worth is what the hold of that sum in a sandbox is worth. -/
noncomputable def Try.pinned : Pinned := { name := "ytehgfhcpjeepkaa", sum := "fe13c4d772c02e067492e024de264a291fce8d34f7a7fb56cb735602c49c1ae7", checked := Try.checked }
namespace Rows
def none {H : Type} : Left H := { results := [], args := [] }

/-- 'pantrylaw05.TlbEldest': WHATEVER THE INPUT: true; the input reads as it did. -/
def tlbEldestSpec : ChangeSpec := { name := "tlbEldest", fn := fun _ => fun
  | [d1, d2] => { results := [.lit (.bool true)], args := [d1, d2] }
  | _ => none }
def tlbEldestRow : OpenClaim := { program := "ytehgfhcpjeepkaa", sum := "fe13c4d772c02e067492e024de264a291fce8d34f7a7fb56cb735602c49c1ae7", func := "pantry/pantrylaw05.TlbEldest", spec := "tlbEldest", unfollowed := true, recurses := true, plainKeys := false, apart := false }
def TlbEldestSaid : Prop := tlbEldestRow.holds Try.pinned (OpenSpec.ofChange tlbEldestSpec)

/-- ITS FALSE NEIGHBOUR: 'it returns false'. Refute it at one input. -/
def tlbEldestWrong : ChangeSpec := { name := "tlbEldest", fn := fun _ => fun
  | [d1, d2] => { results := [.lit (.bool false)], args := [d1, d2] }
  | _ => none }
def TlbEldestWrongFalsely : Prop := tlbEldestRow.holds Try.pinned (OpenSpec.ofChange tlbEldestWrong)

/-- 'pantrylaw05.TlbAsids': WHATEVER THE INPUT: true; the input reads as it did. -/
def tlbAsidsSpec : ChangeSpec := { name := "tlbAsids", fn := fun _ => fun
  | [d1, d2] => { results := [.lit (.bool true)], args := [d1, d2] }
  | _ => none }
def tlbAsidsRow : OpenClaim := { program := "ytehgfhcpjeepkaa", sum := "fe13c4d772c02e067492e024de264a291fce8d34f7a7fb56cb735602c49c1ae7", func := "pantry/pantrylaw05.TlbAsids", spec := "tlbAsids", unfollowed := true, recurses := true, plainKeys := false, apart := false }
def TlbAsidsSaid : Prop := tlbAsidsRow.holds Try.pinned (OpenSpec.ofChange tlbAsidsSpec)

/-- ITS FALSE NEIGHBOUR: 'it returns false'. Refute it at one input. -/
def tlbAsidsWrong : ChangeSpec := { name := "tlbAsids", fn := fun _ => fun
  | [d1, d2] => { results := [.lit (.bool false)], args := [d1, d2] }
  | _ => none }
def TlbAsidsWrongFalsely : Prop := tlbAsidsRow.holds Try.pinned (OpenSpec.ofChange tlbAsidsWrong)

/-- 'pantrylaw05.TlbActs': WHATEVER THE INPUT: true; the input reads as it did. -/
def tlbActsSpec : ChangeSpec := { name := "tlbActs", fn := fun _ => fun
  | [d1, d2] => { results := [.lit (.bool true)], args := [d1, d2] }
  | _ => none }
def tlbActsRow : OpenClaim := { program := "ytehgfhcpjeepkaa", sum := "fe13c4d772c02e067492e024de264a291fce8d34f7a7fb56cb735602c49c1ae7", func := "pantry/pantrylaw05.TlbActs", spec := "tlbActs", unfollowed := true, recurses := true, plainKeys := false, apart := false }
def TlbActsSaid : Prop := tlbActsRow.holds Try.pinned (OpenSpec.ofChange tlbActsSpec)

/-- ITS FALSE NEIGHBOUR: 'it returns false'. Refute it at one input. -/
def tlbActsWrong : ChangeSpec := { name := "tlbActs", fn := fun _ => fun
  | [d1, d2] => { results := [.lit (.bool false)], args := [d1, d2] }
  | _ => none }
def TlbActsWrongFalsely : Prop := tlbActsRow.holds Try.pinned (OpenSpec.ofChange tlbActsWrong)

/-- 'pantrylaw05.TlbLast': WHATEVER THE INPUT: true; the input reads as it did. -/
def tlbLastSpec : ChangeSpec := { name := "tlbLast", fn := fun _ => fun
  | [d1, d2] => { results := [.lit (.bool true)], args := [d1, d2] }
  | _ => none }
def tlbLastRow : OpenClaim := { program := "ytehgfhcpjeepkaa", sum := "fe13c4d772c02e067492e024de264a291fce8d34f7a7fb56cb735602c49c1ae7", func := "pantry/pantrylaw05.TlbLast", spec := "tlbLast", unfollowed := true, recurses := true, plainKeys := false, apart := false }
def TlbLastSaid : Prop := tlbLastRow.holds Try.pinned (OpenSpec.ofChange tlbLastSpec)

/-- ITS FALSE NEIGHBOUR: 'it returns false'. Refute it at one input. -/
def tlbLastWrong : ChangeSpec := { name := "tlbLast", fn := fun _ => fun
  | [d1, d2] => { results := [.lit (.bool false)], args := [d1, d2] }
  | _ => none }
def TlbLastWrongFalsely : Prop := tlbLastRow.holds Try.pinned (OpenSpec.ofChange tlbLastWrong)

/-- 'pantrylaw05.TlbNone': WHATEVER THE INPUT: true; the input reads as it did. -/
def tlbNoneSpec : ChangeSpec := { name := "tlbNone", fn := fun _ => fun
  | [d] => { results := [.lit (.bool true)], args := [d] }
  | _ => none }
def tlbNoneRow : OpenClaim := { program := "ytehgfhcpjeepkaa", sum := "fe13c4d772c02e067492e024de264a291fce8d34f7a7fb56cb735602c49c1ae7", func := "pantry/pantrylaw05.TlbNone", spec := "tlbNone", unfollowed := true, recurses := true, plainKeys := false, apart := false }
def TlbNoneSaid : Prop := tlbNoneRow.holds Try.pinned (OpenSpec.ofChange tlbNoneSpec)

/-- ITS FALSE NEIGHBOUR: 'it returns false'. Refute it at one input. -/
def tlbNoneWrong : ChangeSpec := { name := "tlbNone", fn := fun _ => fun
  | [d] => { results := [.lit (.bool false)], args := [d] }
  | _ => none }
def TlbNoneWrongFalsely : Prop := tlbNoneRow.holds Try.pinned (OpenSpec.ofChange tlbNoneWrong)

/- THE SECOND FORM. 'bulk': how many values and letters a reading holds, each counted each time it is reached (what is shared counts as often as it is met; a slice's spare places count too). A statement '..UptoSaid' is the law's where the arguments, and the package variables that the reading takes, are together of bulk at most 1048576: NARROWER than '..Said'. Prove '..Said' where nothing that the law and all that it calls make is longer than what came in: it says more and counts as full. Else prove '..UptoSaid'. A law counts once. -/
mutual
def uptoBulk {H : Type} : DataW H → Nat
  | .lit (.string bytes) => bytes.length + 1
  | .lit _ => 1
  | .nil => 1
  | .ptr d => uptoBulk d + 1
  | .slice elems spare => uptoBulkAll elems + uptoBulkAll spare + 1
  | .agg parts => uptoBulkAll parts + 1
  | .iface _ d => uptoBulk d + 1
  | .map entries => uptoBulkEntries entries + 1
  | .held _ => 1
def uptoBulkAll {H : Type} : List (DataW H) → Nat
  | [] => 0
  | d :: r => uptoBulk d + uptoBulkAll r
def uptoBulkEntries {H : Type} : List (Lit × DataW H) → Nat
  | [] => 0
  | x :: r => uptoBulkEntry x + uptoBulkEntries r
def uptoBulkEntry {H : Type} : Lit × DataW H → Nat
  | (.string bytes, d) => bytes.length + uptoBulk d + 1
  | (_, d) => uptoBulk d + 1
 end
def uptoSmall : (H : Type) → List (DataW H) → Bool := fun _ ds => decide (uptoBulkAll ds ≤ 1048576)
def OpenSpec.upto (s : _root_.Go.ChangeSpec) : _root_.Go.OpenSpec := { _root_.Go.OpenSpec.ofChange s with cond := some uptoSmall }

/-- 'pantrylaw05.TlbEldest', WHERE WHAT IT READS IS OF BULK AT MOST 1048576: true; the input reads as it did. -/
def tlbEldestUptoRow : OpenClaim := { program := "ytehgfhcpjeepkaa", sum := "fe13c4d772c02e067492e024de264a291fce8d34f7a7fb56cb735602c49c1ae7", func := "pantry/pantrylaw05.TlbEldest", spec := "tlbEldest", unfollowed := true, recurses := true, plainKeys := false, apart := false, narrowed := true }
def TlbEldestUptoSaid : Prop := tlbEldestUptoRow.holds Try.pinned (OpenSpec.upto tlbEldestSpec)

/-- 'pantrylaw05.TlbAsids', WHERE WHAT IT READS IS OF BULK AT MOST 1048576: true; the input reads as it did. -/
def tlbAsidsUptoRow : OpenClaim := { program := "ytehgfhcpjeepkaa", sum := "fe13c4d772c02e067492e024de264a291fce8d34f7a7fb56cb735602c49c1ae7", func := "pantry/pantrylaw05.TlbAsids", spec := "tlbAsids", unfollowed := true, recurses := true, plainKeys := false, apart := false, narrowed := true }
def TlbAsidsUptoSaid : Prop := tlbAsidsUptoRow.holds Try.pinned (OpenSpec.upto tlbAsidsSpec)

/-- 'pantrylaw05.TlbActs', WHERE WHAT IT READS IS OF BULK AT MOST 1048576: true; the input reads as it did. -/
def tlbActsUptoRow : OpenClaim := { program := "ytehgfhcpjeepkaa", sum := "fe13c4d772c02e067492e024de264a291fce8d34f7a7fb56cb735602c49c1ae7", func := "pantry/pantrylaw05.TlbActs", spec := "tlbActs", unfollowed := true, recurses := true, plainKeys := false, apart := false, narrowed := true }
def TlbActsUptoSaid : Prop := tlbActsUptoRow.holds Try.pinned (OpenSpec.upto tlbActsSpec)

/-- 'pantrylaw05.TlbLast', WHERE WHAT IT READS IS OF BULK AT MOST 1048576: true; the input reads as it did. -/
def tlbLastUptoRow : OpenClaim := { program := "ytehgfhcpjeepkaa", sum := "fe13c4d772c02e067492e024de264a291fce8d34f7a7fb56cb735602c49c1ae7", func := "pantry/pantrylaw05.TlbLast", spec := "tlbLast", unfollowed := true, recurses := true, plainKeys := false, apart := false, narrowed := true }
def TlbLastUptoSaid : Prop := tlbLastUptoRow.holds Try.pinned (OpenSpec.upto tlbLastSpec)

/-- 'pantrylaw05.TlbNone', WHERE WHAT IT READS IS OF BULK AT MOST 1048576: true; the input reads as it did. -/
def tlbNoneUptoRow : OpenClaim := { program := "ytehgfhcpjeepkaa", sum := "fe13c4d772c02e067492e024de264a291fce8d34f7a7fb56cb735602c49c1ae7", func := "pantry/pantrylaw05.TlbNone", spec := "tlbNone", unfollowed := true, recurses := true, plainKeys := false, apart := false, narrowed := true }
def TlbNoneUptoSaid : Prop := tlbNoneUptoRow.holds Try.pinned (OpenSpec.upto tlbNoneSpec)

end Rows
end Go.Proofs.Ytehgfhcpjeepkaa

/-
  No cell of these rows narrows 'for every input' (looked for: loops, veiled, ifaces, maps, wideKeys, modest, calm, conditions, laid).
  DERIVED. THE GIVEN ROWS OF THIS SEAT. 5 by the template 'for every input the law returns true; each argument reads behind the call as it read before'; 0 by the template 'total and deterministic' (their statements: YtgmbfjlobnmhdaaTotals.lean).
  GIVEN WITH THE SEED: the statements are not yours to turn. If you find one false, say at which input.
  Laid BY PROGRAM, IN A SANDBOX (cutbox-rows.mjs): the forced cells as the released guide's own fill.sh prints them over the translation 83819bf372454dd3… (all of the seat's roots in one cut). By AI agents, Wed Nov 11 2026. No macro, syntax, notation, axiom, sorry.
-/
import Derived.Test.YtgmbfjlobnmhdaaChecked
import GoSem.Claim
import GoSem.ClaimJoined
import GoSem.ClaimMapViews
import Derived.JoinedTies
import Derived.KernelRfl
namespace Go.Proofs.Ytgmbfjlobnmhdaa
/- THE CELL 'sum', in the pinned program and in every row, IS THE sha256 OF THE DUMP (.gsa) THAT YtgmbfjlobnmhdaaProg.lean LOADS. Nothing in Lean hashes anything: it is a label: what it is worth is what the hold of that sum in a sandbox is worth. -/
noncomputable def Try.pinned : Pinned := { name := "ytgmbfjlobnmhdaa", sum := "83819bf372454dd361abb1544138f0dbff218a1e0ed657ecb77797bcf09312af", checked := Try.checked }
namespace Rows
def none {H : Type} : Left H := { results := [], args := [] }

/-- 'quaysidelaw18.PageTells': WHATEVER THE INPUT: true; the input reads as it did. -/
def pageTellsSpec : ChangeSpec := { name := "pageTells", fn := fun _ => fun
  | [d1, d2, d3] => { results := [.lit (.bool true)], args := [d1, d2, d3] }
  | _ => none }
def pageTellsRow : OpenClaim := { program := "ytgmbfjlobnmhdaa", sum := "83819bf372454dd361abb1544138f0dbff218a1e0ed657ecb77797bcf09312af", func := "quayside/quaysidelaw18.PageTells", spec := "pageTells", unfollowed := true, recurses := true, apart := false }
def PageTellsSaid : Prop := pageTellsRow.holds Try.pinned (OpenSpec.ofChange pageTellsSpec)

/-- ITS FALSE NEIGHBOUR: 'it returns false'. Refute it at one input. -/
def pageTellsWrong : ChangeSpec := { name := "pageTells", fn := fun _ => fun
  | [d1, d2, d3] => { results := [.lit (.bool false)], args := [d1, d2, d3] }
  | _ => none }
def PageTellsWrongFalsely : Prop := pageTellsRow.holds Try.pinned (OpenSpec.ofChange pageTellsWrong)

/-- 'quaysidelaw18.PagePages': WHATEVER THE INPUT: true; the input reads as it did. -/
def pagePagesSpec : ChangeSpec := { name := "pagePages", fn := fun _ => fun
  | [d1, d2] => { results := [.lit (.bool true)], args := [d1, d2] }
  | _ => none }
def pagePagesRow : OpenClaim := { program := "ytgmbfjlobnmhdaa", sum := "83819bf372454dd361abb1544138f0dbff218a1e0ed657ecb77797bcf09312af", func := "quayside/quaysidelaw18.PagePages", spec := "pagePages", unfollowed := true, recurses := true, apart := false }
def PagePagesSaid : Prop := pagePagesRow.holds Try.pinned (OpenSpec.ofChange pagePagesSpec)

/-- ITS FALSE NEIGHBOUR: 'it returns false'. Refute it at one input. -/
def pagePagesWrong : ChangeSpec := { name := "pagePages", fn := fun _ => fun
  | [d1, d2] => { results := [.lit (.bool false)], args := [d1, d2] }
  | _ => none }
def PagePagesWrongFalsely : Prop := pagePagesRow.holds Try.pinned (OpenSpec.ofChange pagePagesWrong)

/-- 'quaysidelaw18.PageStays': WHATEVER THE INPUT: true; the input reads as it did. -/
def pageStaysSpec : ChangeSpec := { name := "pageStays", fn := fun _ => fun
  | [d1, d2, d3, d4] => { results := [.lit (.bool true)], args := [d1, d2, d3, d4] }
  | _ => none }
def pageStaysRow : OpenClaim := { program := "ytgmbfjlobnmhdaa", sum := "83819bf372454dd361abb1544138f0dbff218a1e0ed657ecb77797bcf09312af", func := "quayside/quaysidelaw18.PageStays", spec := "pageStays", unfollowed := true, recurses := true, apart := false }
def PageStaysSaid : Prop := pageStaysRow.holds Try.pinned (OpenSpec.ofChange pageStaysSpec)

/-- ITS FALSE NEIGHBOUR: 'it returns false'. Refute it at one input. -/
def pageStaysWrong : ChangeSpec := { name := "pageStays", fn := fun _ => fun
  | [d1, d2, d3, d4] => { results := [.lit (.bool false)], args := [d1, d2, d3, d4] }
  | _ => none }
def PageStaysWrongFalsely : Prop := pageStaysRow.holds Try.pinned (OpenSpec.ofChange pageStaysWrong)

/-- 'quaysidelaw18.PageKnown': WHATEVER THE INPUT: true; the input reads as it did. -/
def pageKnownSpec : ChangeSpec := { name := "pageKnown", fn := fun _ => fun
  | [] => { results := [.lit (.bool true)], args := [] }
  | _ => none }
def pageKnownRow : OpenClaim := { program := "ytgmbfjlobnmhdaa", sum := "83819bf372454dd361abb1544138f0dbff218a1e0ed657ecb77797bcf09312af", func := "quayside/quaysidelaw18.PageKnown", spec := "pageKnown", unfollowed := true, recurses := true, apart := false }
def PageKnownSaid : Prop := pageKnownRow.holds Try.pinned (OpenSpec.ofChange pageKnownSpec)

/-- ITS FALSE NEIGHBOUR: 'it returns false'. Refute it at one input. -/
def pageKnownWrong : ChangeSpec := { name := "pageKnown", fn := fun _ => fun
  | [] => { results := [.lit (.bool false)], args := [] }
  | _ => none }
def PageKnownWrongFalsely : Prop := pageKnownRow.holds Try.pinned (OpenSpec.ofChange pageKnownWrong)

/-- 'quaysidelaw18.PageBehind': WHATEVER THE INPUT: true; the input reads as it did. -/
def pageBehindSpec : ChangeSpec := { name := "pageBehind", fn := fun _ => fun
  | [d1, d2, d3, d4] => { results := [.lit (.bool true)], args := [d1, d2, d3, d4] }
  | _ => none }
def pageBehindRow : OpenClaim := { program := "ytgmbfjlobnmhdaa", sum := "83819bf372454dd361abb1544138f0dbff218a1e0ed657ecb77797bcf09312af", func := "quayside/quaysidelaw18.PageBehind", spec := "pageBehind", unfollowed := true, recurses := true, apart := false }
def PageBehindSaid : Prop := pageBehindRow.holds Try.pinned (OpenSpec.ofChange pageBehindSpec)

/-- ITS FALSE NEIGHBOUR: 'it returns false'. Refute it at one input. -/
def pageBehindWrong : ChangeSpec := { name := "pageBehind", fn := fun _ => fun
  | [d1, d2, d3, d4] => { results := [.lit (.bool false)], args := [d1, d2, d3, d4] }
  | _ => none }
def PageBehindWrongFalsely : Prop := pageBehindRow.holds Try.pinned (OpenSpec.ofChange pageBehindWrong)

/- THE SECOND FORM. 'bulk': how many values and letters a reading holds, each counted each time it is reached (what is shared counts as often as it is met; a slice's spare places count too). A statement '..UptoSaid' is the law's where the arguments, and the package variables that the reading takes, are together of bulk at most 1048576: NARROWER than '..Said'. Prove '..Said' where nothing that the law and all that it calls make is longer than what came in: it says more and counts as full. Else prove '..UptoSaid'. A law counts once. -/
mutual
def uptoBulk {H : Type} : DataW H → Nat
  | .lit (.string bytes) => bytes.length + 1
  | .lit _ => 1
  | .nil => 1
  | .ptr d => uptoBulk d + 1
  | .slice elems spare => uptoBulkAll elems + uptoBulkAll spare + 1
  | .agg parts => uptoBulkAll parts + 1
  | .iface _ d => uptoBulk d + 1
  | .map entries => uptoBulkEntries entries + 1
  | .held _ => 1
def uptoBulkAll {H : Type} : List (DataW H) → Nat
  | [] => 0
  | d :: r => uptoBulk d + uptoBulkAll r
def uptoBulkEntries {H : Type} : List (Lit × DataW H) → Nat
  | [] => 0
  | x :: r => uptoBulkEntry x + uptoBulkEntries r
def uptoBulkEntry {H : Type} : Lit × DataW H → Nat
  | (.string bytes, d) => bytes.length + uptoBulk d + 1
  | (_, d) => uptoBulk d + 1
 end
def uptoSmall : (H : Type) → List (DataW H) → Bool := fun _ ds => decide (uptoBulkAll ds ≤ 1048576)
def OpenSpec.upto (s : _root_.Go.ChangeSpec) : _root_.Go.OpenSpec := { _root_.Go.OpenSpec.ofChange s with cond := some uptoSmall }

/-- 'quaysidelaw18.PageTells', WHERE WHAT IT READS IS OF BULK AT MOST 1048576: true; the input reads as it did. -/
def pageTellsUptoRow : OpenClaim := { program := "ytgmbfjlobnmhdaa", sum := "83819bf372454dd361abb1544138f0dbff218a1e0ed657ecb77797bcf09312af", func := "quayside/quaysidelaw18.PageTells", spec := "pageTells", unfollowed := true, recurses := true, apart := false, narrowed := true }
def PageTellsUptoSaid : Prop := pageTellsUptoRow.holds Try.pinned (OpenSpec.upto pageTellsSpec)

/-- 'quaysidelaw18.PagePages', WHERE WHAT IT READS IS OF BULK AT MOST 1048576: true; the input reads as it did. -/
def pagePagesUptoRow : OpenClaim := { program := "ytgmbfjlobnmhdaa", sum := "83819bf372454dd361abb1544138f0dbff218a1e0ed657ecb77797bcf09312af", func := "quayside/quaysidelaw18.PagePages", spec := "pagePages", unfollowed := true, recurses := true, apart := false, narrowed := true }
def PagePagesUptoSaid : Prop := pagePagesUptoRow.holds Try.pinned (OpenSpec.upto pagePagesSpec)

/-- 'quaysidelaw18.PageStays', WHERE WHAT IT READS IS OF BULK AT MOST 1048576: true; the input reads as it did. -/
def pageStaysUptoRow : OpenClaim := { program := "ytgmbfjlobnmhdaa", sum := "83819bf372454dd361abb1544138f0dbff218a1e0ed657ecb77797bcf09312af", func := "quayside/quaysidelaw18.PageStays", spec := "pageStays", unfollowed := true, recurses := true, apart := false, narrowed := true }
def PageStaysUptoSaid : Prop := pageStaysUptoRow.holds Try.pinned (OpenSpec.upto pageStaysSpec)

/-- 'quaysidelaw18.PageKnown', WHERE WHAT IT READS IS OF BULK AT MOST 1048576: true; the input reads as it did. -/
def pageKnownUptoRow : OpenClaim := { program := "ytgmbfjlobnmhdaa", sum := "83819bf372454dd361abb1544138f0dbff218a1e0ed657ecb77797bcf09312af", func := "quayside/quaysidelaw18.PageKnown", spec := "pageKnown", unfollowed := true, recurses := true, apart := false, narrowed := true }
def PageKnownUptoSaid : Prop := pageKnownUptoRow.holds Try.pinned (OpenSpec.upto pageKnownSpec)

/-- 'quaysidelaw18.PageBehind', WHERE WHAT IT READS IS OF BULK AT MOST 1048576: true; the input reads as it did. -/
def pageBehindUptoRow : OpenClaim := { program := "ytgmbfjlobnmhdaa", sum := "83819bf372454dd361abb1544138f0dbff218a1e0ed657ecb77797bcf09312af", func := "quayside/quaysidelaw18.PageBehind", spec := "pageBehind", unfollowed := true, recurses := true, apart := false, narrowed := true }
def PageBehindUptoSaid : Prop := pageBehindUptoRow.holds Try.pinned (OpenSpec.upto pageBehindSpec)

end Rows
end Go.Proofs.Ytgmbfjlobnmhdaa

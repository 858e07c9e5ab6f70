/-
  No cell of these rows narrows 'for every input' (looked for: loops, veiled, ifaces, maps, wideKeys, modest, calm, conditions, laid).
  DERIVED. THE GIVEN ROWS OF THIS SEAT. 11 by the template 'for every input the law returns true; each argument reads behind the call as it read before'; 0 by the template 'total and deterministic' (their statements: YtcidmlpjobdakaaTotals.lean).
  GIVEN WITH THE SEED: the statements are not yours to turn. If you find one false, say at which input.
  Laid BY PROGRAM, IN A SANDBOX (cutbox-rows.mjs): the forced cells as the released guide's own fill.sh prints them over the translation 0cf058963a2bc29c… (all of the seat's roots in one cut). By AI agents, Wed Nov 11 2026. No macro, syntax, notation, axiom, sorry.
-/
import Derived.Test.YtcidmlpjobdakaaChecked
import GoSem.Claim
import GoSem.ClaimJoined
import GoSem.ClaimMapViews
import Derived.JoinedTies
import Derived.KernelRfl
namespace Go.Proofs.Ytcidmlpjobdakaa
/- THE CELL 'sum', in the pinned program and in every row, IS THE sha256 OF THE DUMP (.gsa) THAT YtcidmlpjobdakaaProg.lean LOADS. Nothing in Lean hashes anything: it is a label: what it is worth is what the hold of that sum in a sandbox is worth. -/
noncomputable def Try.pinned : Pinned := { name := "ytcidmlpjobdakaa", sum := "0cf058963a2bc29c455c0943dbafa1d107efeb2ea972bfb9f040a5ec11664510", checked := Try.checked }
namespace Rows
def none {H : Type} : Left H := { results := [], args := [] }

/-- 'quaysidelaw14.StreamReads': WHATEVER THE INPUT: true; the input reads as it did. -/
def streamReadsSpec : ChangeSpec := { name := "streamReads", fn := fun _ => fun
  | [d1, d2, d3, d4, d5] => { results := [.lit (.bool true)], args := [d1, d2, d3, d4, d5] }
  | _ => none }
def streamReadsRow : OpenClaim := { program := "ytcidmlpjobdakaa", sum := "0cf058963a2bc29c455c0943dbafa1d107efeb2ea972bfb9f040a5ec11664510", func := "quayside/quaysidelaw14.StreamReads", spec := "streamReads", unfollowed := true, recurses := true, apart := false }
def StreamReadsSaid : Prop := streamReadsRow.holds Try.pinned (OpenSpec.ofChange streamReadsSpec)

/-- ITS FALSE NEIGHBOUR: 'it returns false'. Refute it at one input. -/
def streamReadsWrong : ChangeSpec := { name := "streamReads", fn := fun _ => fun
  | [d1, d2, d3, d4, d5] => { results := [.lit (.bool false)], args := [d1, d2, d3, d4, d5] }
  | _ => none }
def StreamReadsWrongFalsely : Prop := streamReadsRow.holds Try.pinned (OpenSpec.ofChange streamReadsWrong)

/-- 'quaysidelaw14.StreamPieces': WHATEVER THE INPUT: true; the input reads as it did. -/
def streamPiecesSpec : ChangeSpec := { name := "streamPieces", fn := fun _ => fun
  | [d1, d2, d3, d4] => { results := [.lit (.bool true)], args := [d1, d2, d3, d4] }
  | _ => none }
def streamPiecesRow : OpenClaim := { program := "ytcidmlpjobdakaa", sum := "0cf058963a2bc29c455c0943dbafa1d107efeb2ea972bfb9f040a5ec11664510", func := "quayside/quaysidelaw14.StreamPieces", spec := "streamPieces", unfollowed := true, recurses := true, apart := false }
def StreamPiecesSaid : Prop := streamPiecesRow.holds Try.pinned (OpenSpec.ofChange streamPiecesSpec)

/-- ITS FALSE NEIGHBOUR: 'it returns false'. Refute it at one input. -/
def streamPiecesWrong : ChangeSpec := { name := "streamPieces", fn := fun _ => fun
  | [d1, d2, d3, d4] => { results := [.lit (.bool false)], args := [d1, d2, d3, d4] }
  | _ => none }
def StreamPiecesWrongFalsely : Prop := streamPiecesRow.holds Try.pinned (OpenSpec.ofChange streamPiecesWrong)

/-- 'quaysidelaw14.StreamParts': WHATEVER THE INPUT: true; the input reads as it did. -/
def streamPartsSpec : ChangeSpec := { name := "streamParts", fn := fun _ => fun
  | [d] => { results := [.lit (.bool true)], args := [d] }
  | _ => none }
def streamPartsRow : OpenClaim := { program := "ytcidmlpjobdakaa", sum := "0cf058963a2bc29c455c0943dbafa1d107efeb2ea972bfb9f040a5ec11664510", func := "quayside/quaysidelaw14.StreamParts", spec := "streamParts", unfollowed := true, recurses := true, apart := false }
def StreamPartsSaid : Prop := streamPartsRow.holds Try.pinned (OpenSpec.ofChange streamPartsSpec)

/-- ITS FALSE NEIGHBOUR: 'it returns false'. Refute it at one input. -/
def streamPartsWrong : ChangeSpec := { name := "streamParts", fn := fun _ => fun
  | [d] => { results := [.lit (.bool false)], args := [d] }
  | _ => none }
def StreamPartsWrongFalsely : Prop := streamPartsRow.holds Try.pinned (OpenSpec.ofChange streamPartsWrong)

/-- 'quaysidelaw14.StreamVoids': WHATEVER THE INPUT: true; the input reads as it did. -/
def streamVoidsSpec : ChangeSpec := { name := "streamVoids", fn := fun _ => fun
  | [d] => { results := [.lit (.bool true)], args := [d] }
  | _ => none }
def streamVoidsRow : OpenClaim := { program := "ytcidmlpjobdakaa", sum := "0cf058963a2bc29c455c0943dbafa1d107efeb2ea972bfb9f040a5ec11664510", func := "quayside/quaysidelaw14.StreamVoids", spec := "streamVoids", unfollowed := true, recurses := true, apart := false }
def StreamVoidsSaid : Prop := streamVoidsRow.holds Try.pinned (OpenSpec.ofChange streamVoidsSpec)

/-- ITS FALSE NEIGHBOUR: 'it returns false'. Refute it at one input. -/
def streamVoidsWrong : ChangeSpec := { name := "streamVoids", fn := fun _ => fun
  | [d] => { results := [.lit (.bool false)], args := [d] }
  | _ => none }
def StreamVoidsWrongFalsely : Prop := streamVoidsRow.holds Try.pinned (OpenSpec.ofChange streamVoidsWrong)

/-- 'quaysidelaw14.StreamKnown': WHATEVER THE INPUT: true; the input reads as it did. -/
def streamKnownSpec : ChangeSpec := { name := "streamKnown", fn := fun _ => fun
  | [] => { results := [.lit (.bool true)], args := [] }
  | _ => none }
def streamKnownRow : OpenClaim := { program := "ytcidmlpjobdakaa", sum := "0cf058963a2bc29c455c0943dbafa1d107efeb2ea972bfb9f040a5ec11664510", func := "quayside/quaysidelaw14.StreamKnown", spec := "streamKnown", unfollowed := true, recurses := true, apart := false }
def StreamKnownSaid : Prop := streamKnownRow.holds Try.pinned (OpenSpec.ofChange streamKnownSpec)

/-- ITS FALSE NEIGHBOUR: 'it returns false'. Refute it at one input. -/
def streamKnownWrong : ChangeSpec := { name := "streamKnown", fn := fun _ => fun
  | [] => { results := [.lit (.bool false)], args := [] }
  | _ => none }
def StreamKnownWrongFalsely : Prop := streamKnownRow.holds Try.pinned (OpenSpec.ofChange streamKnownWrong)

/-- 'quaysidelaw14.StreamFrom': WHATEVER THE INPUT: true; the input reads as it did. -/
def streamFromSpec : ChangeSpec := { name := "streamFrom", fn := fun _ => fun
  | [d1, d2, d3, d4, d5] => { results := [.lit (.bool true)], args := [d1, d2, d3, d4, d5] }
  | _ => none }
def streamFromRow : OpenClaim := { program := "ytcidmlpjobdakaa", sum := "0cf058963a2bc29c455c0943dbafa1d107efeb2ea972bfb9f040a5ec11664510", func := "quayside/quaysidelaw14.StreamFrom", spec := "streamFrom", unfollowed := true, recurses := true, apart := false }
def StreamFromSaid : Prop := streamFromRow.holds Try.pinned (OpenSpec.ofChange streamFromSpec)

/-- ITS FALSE NEIGHBOUR: 'it returns false'. Refute it at one input. -/
def streamFromWrong : ChangeSpec := { name := "streamFrom", fn := fun _ => fun
  | [d1, d2, d3, d4, d5] => { results := [.lit (.bool false)], args := [d1, d2, d3, d4, d5] }
  | _ => none }
def StreamFromWrongFalsely : Prop := streamFromRow.holds Try.pinned (OpenSpec.ofChange streamFromWrong)

/-- 'quaysidelaw29.FlightPlays': WHATEVER THE INPUT: true; the input reads as it did. -/
def flightPlaysSpec : ChangeSpec := { name := "flightPlays", fn := fun _ => fun
  | [d] => { results := [.lit (.bool true)], args := [d] }
  | _ => none }
def flightPlaysRow : OpenClaim := { program := "ytcidmlpjobdakaa", sum := "0cf058963a2bc29c455c0943dbafa1d107efeb2ea972bfb9f040a5ec11664510", func := "quayside/quaysidelaw29.FlightPlays", spec := "flightPlays", unfollowed := true, recurses := true, apart := false }
def FlightPlaysSaid : Prop := flightPlaysRow.holds Try.pinned (OpenSpec.ofChange flightPlaysSpec)

/-- ITS FALSE NEIGHBOUR: 'it returns false'. Refute it at one input. -/
def flightPlaysWrong : ChangeSpec := { name := "flightPlays", fn := fun _ => fun
  | [d] => { results := [.lit (.bool false)], args := [d] }
  | _ => none }
def FlightPlaysWrongFalsely : Prop := flightPlaysRow.holds Try.pinned (OpenSpec.ofChange flightPlaysWrong)

/-- 'quaysidelaw29.FlightOrder': WHATEVER THE INPUT: true; the input reads as it did. -/
def flightOrderSpec : ChangeSpec := { name := "flightOrder", fn := fun _ => fun
  | [d1, d2] => { results := [.lit (.bool true)], args := [d1, d2] }
  | _ => none }
def flightOrderRow : OpenClaim := { program := "ytcidmlpjobdakaa", sum := "0cf058963a2bc29c455c0943dbafa1d107efeb2ea972bfb9f040a5ec11664510", func := "quayside/quaysidelaw29.FlightOrder", spec := "flightOrder", unfollowed := true, recurses := true, apart := false }
def FlightOrderSaid : Prop := flightOrderRow.holds Try.pinned (OpenSpec.ofChange flightOrderSpec)

/-- ITS FALSE NEIGHBOUR: 'it returns false'. Refute it at one input. -/
def flightOrderWrong : ChangeSpec := { name := "flightOrder", fn := fun _ => fun
  | [d1, d2] => { results := [.lit (.bool false)], args := [d1, d2] }
  | _ => none }
def FlightOrderWrongFalsely : Prop := flightOrderRow.holds Try.pinned (OpenSpec.ofChange flightOrderWrong)

/-- 'quaysidelaw29.FlightBetween': WHATEVER THE INPUT: true; the input reads as it did. -/
def flightBetweenSpec : ChangeSpec := { name := "flightBetween", fn := fun _ => fun
  | [d1, d2, d3, d4] => { results := [.lit (.bool true)], args := [d1, d2, d3, d4] }
  | _ => none }
def flightBetweenRow : OpenClaim := { program := "ytcidmlpjobdakaa", sum := "0cf058963a2bc29c455c0943dbafa1d107efeb2ea972bfb9f040a5ec11664510", func := "quayside/quaysidelaw29.FlightBetween", spec := "flightBetween", unfollowed := true, recurses := true, apart := false }
def FlightBetweenSaid : Prop := flightBetweenRow.holds Try.pinned (OpenSpec.ofChange flightBetweenSpec)

/-- ITS FALSE NEIGHBOUR: 'it returns false'. Refute it at one input. -/
def flightBetweenWrong : ChangeSpec := { name := "flightBetween", fn := fun _ => fun
  | [d1, d2, d3, d4] => { results := [.lit (.bool false)], args := [d1, d2, d3, d4] }
  | _ => none }
def FlightBetweenWrongFalsely : Prop := flightBetweenRow.holds Try.pinned (OpenSpec.ofChange flightBetweenWrong)

/-- 'quaysidelaw29.FlightFull': WHATEVER THE INPUT: true; the input reads as it did. -/
def flightFullSpec : ChangeSpec := { name := "flightFull", fn := fun _ => fun
  | [d1, d2, d3] => { results := [.lit (.bool true)], args := [d1, d2, d3] }
  | _ => none }
def flightFullRow : OpenClaim := { program := "ytcidmlpjobdakaa", sum := "0cf058963a2bc29c455c0943dbafa1d107efeb2ea972bfb9f040a5ec11664510", func := "quayside/quaysidelaw29.FlightFull", spec := "flightFull", unfollowed := true, recurses := true, apart := false }
def FlightFullSaid : Prop := flightFullRow.holds Try.pinned (OpenSpec.ofChange flightFullSpec)

/-- ITS FALSE NEIGHBOUR: 'it returns false'. Refute it at one input. -/
def flightFullWrong : ChangeSpec := { name := "flightFull", fn := fun _ => fun
  | [d1, d2, d3] => { results := [.lit (.bool false)], args := [d1, d2, d3] }
  | _ => none }
def FlightFullWrongFalsely : Prop := flightFullRow.holds Try.pinned (OpenSpec.ofChange flightFullWrong)

/-- 'quaysidelaw29.FlightKnown': WHATEVER THE INPUT: true; the input reads as it did. -/
def flightKnownSpec : ChangeSpec := { name := "flightKnown", fn := fun _ => fun
  | [] => { results := [.lit (.bool true)], args := [] }
  | _ => none }
def flightKnownRow : OpenClaim := { program := "ytcidmlpjobdakaa", sum := "0cf058963a2bc29c455c0943dbafa1d107efeb2ea972bfb9f040a5ec11664510", func := "quayside/quaysidelaw29.FlightKnown", spec := "flightKnown", unfollowed := true, recurses := true, apart := false }
def FlightKnownSaid : Prop := flightKnownRow.holds Try.pinned (OpenSpec.ofChange flightKnownSpec)

/-- ITS FALSE NEIGHBOUR: 'it returns false'. Refute it at one input. -/
def flightKnownWrong : ChangeSpec := { name := "flightKnown", fn := fun _ => fun
  | [] => { results := [.lit (.bool false)], args := [] }
  | _ => none }
def FlightKnownWrongFalsely : Prop := flightKnownRow.holds Try.pinned (OpenSpec.ofChange flightKnownWrong)

/- THE SECOND FORM. 'bulk': how many values and letters a reading holds, each counted each time it is reached (what is shared counts as often as it is met; a slice's spare places count too). A statement '..UptoSaid' is the law's where the arguments, and the package variables that the reading takes, are together of bulk at most 1048576: NARROWER than '..Said'. Prove '..Said' where nothing that the law and all that it calls make is longer than what came in: it says more and counts as full. Else prove '..UptoSaid'. A law counts once. -/
mutual
def uptoBulk {H : Type} : DataW H → Nat
  | .lit (.string bytes) => bytes.length + 1
  | .lit _ => 1
  | .nil => 1
  | .ptr d => uptoBulk d + 1
  | .slice elems spare => uptoBulkAll elems + uptoBulkAll spare + 1
  | .agg parts => uptoBulkAll parts + 1
  | .iface _ d => uptoBulk d + 1
  | .map entries => uptoBulkEntries entries + 1
  | .held _ => 1
def uptoBulkAll {H : Type} : List (DataW H) → Nat
  | [] => 0
  | d :: r => uptoBulk d + uptoBulkAll r
def uptoBulkEntries {H : Type} : List (Lit × DataW H) → Nat
  | [] => 0
  | x :: r => uptoBulkEntry x + uptoBulkEntries r
def uptoBulkEntry {H : Type} : Lit × DataW H → Nat
  | (.string bytes, d) => bytes.length + uptoBulk d + 1
  | (_, d) => uptoBulk d + 1
 end
def uptoSmall : (H : Type) → List (DataW H) → Bool := fun _ ds => decide (uptoBulkAll ds ≤ 1048576)
def OpenSpec.upto (s : _root_.Go.ChangeSpec) : _root_.Go.OpenSpec := { _root_.Go.OpenSpec.ofChange s with cond := some uptoSmall }

/-- 'quaysidelaw14.StreamReads', WHERE WHAT IT READS IS OF BULK AT MOST 1048576: true; the input reads as it did. -/
def streamReadsUptoRow : OpenClaim := { program := "ytcidmlpjobdakaa", sum := "0cf058963a2bc29c455c0943dbafa1d107efeb2ea972bfb9f040a5ec11664510", func := "quayside/quaysidelaw14.StreamReads", spec := "streamReads", unfollowed := true, recurses := true, apart := false, narrowed := true }
def StreamReadsUptoSaid : Prop := streamReadsUptoRow.holds Try.pinned (OpenSpec.upto streamReadsSpec)

/-- 'quaysidelaw14.StreamPieces', WHERE WHAT IT READS IS OF BULK AT MOST 1048576: true; the input reads as it did. -/
def streamPiecesUptoRow : OpenClaim := { program := "ytcidmlpjobdakaa", sum := "0cf058963a2bc29c455c0943dbafa1d107efeb2ea972bfb9f040a5ec11664510", func := "quayside/quaysidelaw14.StreamPieces", spec := "streamPieces", unfollowed := true, recurses := true, apart := false, narrowed := true }
def StreamPiecesUptoSaid : Prop := streamPiecesUptoRow.holds Try.pinned (OpenSpec.upto streamPiecesSpec)

/-- 'quaysidelaw14.StreamParts', WHERE WHAT IT READS IS OF BULK AT MOST 1048576: true; the input reads as it did. -/
def streamPartsUptoRow : OpenClaim := { program := "ytcidmlpjobdakaa", sum := "0cf058963a2bc29c455c0943dbafa1d107efeb2ea972bfb9f040a5ec11664510", func := "quayside/quaysidelaw14.StreamParts", spec := "streamParts", unfollowed := true, recurses := true, apart := false, narrowed := true }
def StreamPartsUptoSaid : Prop := streamPartsUptoRow.holds Try.pinned (OpenSpec.upto streamPartsSpec)

/-- 'quaysidelaw14.StreamVoids', WHERE WHAT IT READS IS OF BULK AT MOST 1048576: true; the input reads as it did. -/
def streamVoidsUptoRow : OpenClaim := { program := "ytcidmlpjobdakaa", sum := "0cf058963a2bc29c455c0943dbafa1d107efeb2ea972bfb9f040a5ec11664510", func := "quayside/quaysidelaw14.StreamVoids", spec := "streamVoids", unfollowed := true, recurses := true, apart := false, narrowed := true }
def StreamVoidsUptoSaid : Prop := streamVoidsUptoRow.holds Try.pinned (OpenSpec.upto streamVoidsSpec)

/-- 'quaysidelaw14.StreamKnown', WHERE WHAT IT READS IS OF BULK AT MOST 1048576: true; the input reads as it did. -/
def streamKnownUptoRow : OpenClaim := { program := "ytcidmlpjobdakaa", sum := "0cf058963a2bc29c455c0943dbafa1d107efeb2ea972bfb9f040a5ec11664510", func := "quayside/quaysidelaw14.StreamKnown", spec := "streamKnown", unfollowed := true, recurses := true, apart := false, narrowed := true }
def StreamKnownUptoSaid : Prop := streamKnownUptoRow.holds Try.pinned (OpenSpec.upto streamKnownSpec)

/-- 'quaysidelaw14.StreamFrom', WHERE WHAT IT READS IS OF BULK AT MOST 1048576: true; the input reads as it did. -/
def streamFromUptoRow : OpenClaim := { program := "ytcidmlpjobdakaa", sum := "0cf058963a2bc29c455c0943dbafa1d107efeb2ea972bfb9f040a5ec11664510", func := "quayside/quaysidelaw14.StreamFrom", spec := "streamFrom", unfollowed := true, recurses := true, apart := false, narrowed := true }
def StreamFromUptoSaid : Prop := streamFromUptoRow.holds Try.pinned (OpenSpec.upto streamFromSpec)

/-- 'quaysidelaw29.FlightPlays', WHERE WHAT IT READS IS OF BULK AT MOST 1048576: true; the input reads as it did. -/
def flightPlaysUptoRow : OpenClaim := { program := "ytcidmlpjobdakaa", sum := "0cf058963a2bc29c455c0943dbafa1d107efeb2ea972bfb9f040a5ec11664510", func := "quayside/quaysidelaw29.FlightPlays", spec := "flightPlays", unfollowed := true, recurses := true, apart := false, narrowed := true }
def FlightPlaysUptoSaid : Prop := flightPlaysUptoRow.holds Try.pinned (OpenSpec.upto flightPlaysSpec)

/-- 'quaysidelaw29.FlightOrder', WHERE WHAT IT READS IS OF BULK AT MOST 1048576: true; the input reads as it did. -/
def flightOrderUptoRow : OpenClaim := { program := "ytcidmlpjobdakaa", sum := "0cf058963a2bc29c455c0943dbafa1d107efeb2ea972bfb9f040a5ec11664510", func := "quayside/quaysidelaw29.FlightOrder", spec := "flightOrder", unfollowed := true, recurses := true, apart := false, narrowed := true }
def FlightOrderUptoSaid : Prop := flightOrderUptoRow.holds Try.pinned (OpenSpec.upto flightOrderSpec)

/-- 'quaysidelaw29.FlightBetween', WHERE WHAT IT READS IS OF BULK AT MOST 1048576: true; the input reads as it did. -/
def flightBetweenUptoRow : OpenClaim := { program := "ytcidmlpjobdakaa", sum := "0cf058963a2bc29c455c0943dbafa1d107efeb2ea972bfb9f040a5ec11664510", func := "quayside/quaysidelaw29.FlightBetween", spec := "flightBetween", unfollowed := true, recurses := true, apart := false, narrowed := true }
def FlightBetweenUptoSaid : Prop := flightBetweenUptoRow.holds Try.pinned (OpenSpec.upto flightBetweenSpec)

/-- 'quaysidelaw29.FlightFull', WHERE WHAT IT READS IS OF BULK AT MOST 1048576: true; the input reads as it did. -/
def flightFullUptoRow : OpenClaim := { program := "ytcidmlpjobdakaa", sum := "0cf058963a2bc29c455c0943dbafa1d107efeb2ea972bfb9f040a5ec11664510", func := "quayside/quaysidelaw29.FlightFull", spec := "flightFull", unfollowed := true, recurses := true, apart := false, narrowed := true }
def FlightFullUptoSaid : Prop := flightFullUptoRow.holds Try.pinned (OpenSpec.upto flightFullSpec)

/-- 'quaysidelaw29.FlightKnown', WHERE WHAT IT READS IS OF BULK AT MOST 1048576: true; the input reads as it did. -/
def flightKnownUptoRow : OpenClaim := { program := "ytcidmlpjobdakaa", sum := "0cf058963a2bc29c455c0943dbafa1d107efeb2ea972bfb9f040a5ec11664510", func := "quayside/quaysidelaw29.FlightKnown", spec := "flightKnown", unfollowed := true, recurses := true, apart := false, narrowed := true }
def FlightKnownUptoSaid : Prop := flightKnownUptoRow.holds Try.pinned (OpenSpec.upto flightKnownSpec)

end Rows
end Go.Proofs.Ytcidmlpjobdakaa

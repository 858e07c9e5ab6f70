/-
  NARROWER THAN 'FOR EVERY INPUT', by the rows' own cells (each row's printed sentence says how): CrcTells: laid · CrcCuts: laid · CrcLine: laid · CrcBack: laid · CrcBits: laid · CrcKnown: laid · FrameWhole: laid · FrameKnown: laid · FramePuts: laid · FrameBack: laid · FrameSums: laid · FrameHeads: laid · FrameGets: laid.
  DERIVED. THE GIVEN ROWS OF THIS SEAT. 13 by the template 'for every input the law returns true; each argument reads behind the call as it read before'; 0 by the template 'total and deterministic' (their statements: YtinenekbdcbcnaaDoorTotals.lean).
  GIVEN WITH THE SEED: the statements are not yours to turn. If you find one false, say at which input.
  Laid BY PROGRAM, IN A SANDBOX (cutbox-rows.mjs): the forced cells as the released guide's own fill.sh prints them over the translation 48a81c63a5f8a8df… (all of the seat's roots in one cut). By AI agents, Wed Nov 11 2026. No macro, syntax, notation, axiom, sorry.
-/
import Derived.Test.YtinenekbdcbcnaaDoorChecked
import GoSem.Claim
import GoSem.ClaimJoined
import GoSem.ClaimMapViews
import Derived.JoinedTies
import Derived.KernelRfl
namespace Go.Proofs.YtinenekbdcbcnaaDoor
/- THE CELL 'sum', in the pinned program and in every row, IS THE sha256 OF THE DUMP (.gsa) THAT YtinenekbdcbcnaaDoorProg.lean LOADS. Nothing in Lean hashes anything: it is a label: what it is worth is what the hold of that sum in a sandbox is worth. -/
noncomputable def Tryd.pinned : Pinned := { name := "ytinenekbdcbcnaadoor", sum := "48a81c63a5f8a8df8ff1d4981eebb586972e807da67c58badbed693367c68b90", checked := Tryd.checked }
namespace Rows
def none {H : Type} : Left H := { results := [], args := [] }

/- WHAT THE LISTED PACKAGE-LEVEL VARIABLES READ AS WHEN THE CALL BEGINS. Each datum BY PROGRAM (the guide's laid-datum.mjs) off the statement by which the dump's own 'gosem.cut.vars' lays the variable. In a bare row this is a premise. The card (YtinenekbdcbcnaaDoorCards.lean) ties it to the program's text. -/
def laid_quayside_crc_lower {H : Type} : DataW H := .agg [.lit (.int .u32 0), .lit (.int .u32 1996959894), .lit (.int .u32 3993919788), .lit (.int .u32 2567524794), .lit (.int .u32 124634137), .lit (.int .u32 1886057615), .lit (.int .u32 3915621685), .lit (.int .u32 2657392035), .lit (.int .u32 249268274), .lit (.int .u32 2044508324), .lit (.int .u32 3772115230), .lit (.int .u32 2547177864), .lit (.int .u32 162941995), .lit (.int .u32 2125561021), .lit (.int .u32 3887607047), .lit (.int .u32 2428444049)]
def laid_quayside_crc_upper {H : Type} : DataW H := .agg [.lit (.int .u32 0), .lit (.int .u32 498536548), .lit (.int .u32 997073096), .lit (.int .u32 651767980), .lit (.int .u32 1994146192), .lit (.int .u32 1802195444), .lit (.int .u32 1303535960), .lit (.int .u32 1342533948), .lit (.int .u32 3988292384), .lit (.int .u32 4027552580), .lit (.int .u32 3604390888), .lit (.int .u32 3412177804), .lit (.int .u32 2607071920), .lit (.int .u32 2262029012), .lit (.int .u32 2685067896), .lit (.int .u32 3183342108)]

/-- 'quaysidelaw02.CrcTells': WHATEVER THE INPUT: true; the input reads as it did. -/
def crcTellsSpec : ChangeSpec := { name := "crcTells", fn := fun _ => fun
  | [d1, d2] => { results := [.lit (.bool true)], args := [d1, d2] }
  | _ => none }
def crcTellsRow : OpenClaim := { program := "ytinenekbdcbcnaadoor", sum := "48a81c63a5f8a8df8ff1d4981eebb586972e807da67c58badbed693367c68b90", func := "quayside/quaysidelaw02.CrcTells", spec := "crcTells", named := ["quayside/crc.lower", "quayside/crc.upper"], apart := false, laid := [("quayside/crc.lower", laid_quayside_crc_lower), ("quayside/crc.upper", laid_quayside_crc_upper)] }
def CrcTellsSaid : Prop := crcTellsRow.holds Tryd.pinned (OpenSpec.ofChange crcTellsSpec)

/-- ITS FALSE NEIGHBOUR: 'it returns false'. Refute it at one input. -/
def crcTellsWrong : ChangeSpec := { name := "crcTells", fn := fun _ => fun
  | [d1, d2] => { results := [.lit (.bool false)], args := [d1, d2] }
  | _ => none }
def CrcTellsWrongFalsely : Prop := crcTellsRow.holds Tryd.pinned (OpenSpec.ofChange crcTellsWrong)

/-- 'quaysidelaw02.CrcCuts': WHATEVER THE INPUT: true; the input reads as it did. -/
def crcCutsSpec : ChangeSpec := { name := "crcCuts", fn := fun _ => fun
  | [d1, d2, d3] => { results := [.lit (.bool true)], args := [d1, d2, d3] }
  | _ => none }
def crcCutsRow : OpenClaim := { program := "ytinenekbdcbcnaadoor", sum := "48a81c63a5f8a8df8ff1d4981eebb586972e807da67c58badbed693367c68b90", func := "quayside/quaysidelaw02.CrcCuts", spec := "crcCuts", named := ["quayside/crc.lower", "quayside/crc.upper"], apart := false, laid := [("quayside/crc.lower", laid_quayside_crc_lower), ("quayside/crc.upper", laid_quayside_crc_upper)] }
def CrcCutsSaid : Prop := crcCutsRow.holds Tryd.pinned (OpenSpec.ofChange crcCutsSpec)

/-- ITS FALSE NEIGHBOUR: 'it returns false'. Refute it at one input. -/
def crcCutsWrong : ChangeSpec := { name := "crcCuts", fn := fun _ => fun
  | [d1, d2, d3] => { results := [.lit (.bool false)], args := [d1, d2, d3] }
  | _ => none }
def CrcCutsWrongFalsely : Prop := crcCutsRow.holds Tryd.pinned (OpenSpec.ofChange crcCutsWrong)

/-- 'quaysidelaw02.CrcLine': WHATEVER THE INPUT: true; the input reads as it did. -/
def crcLineSpec : ChangeSpec := { name := "crcLine", fn := fun _ => fun
  | [d1, d2, d3, d4] => { results := [.lit (.bool true)], args := [d1, d2, d3, d4] }
  | _ => none }
def crcLineRow : OpenClaim := { program := "ytinenekbdcbcnaadoor", sum := "48a81c63a5f8a8df8ff1d4981eebb586972e807da67c58badbed693367c68b90", func := "quayside/quaysidelaw02.CrcLine", spec := "crcLine", named := ["quayside/crc.lower", "quayside/crc.upper"], apart := false, laid := [("quayside/crc.lower", laid_quayside_crc_lower), ("quayside/crc.upper", laid_quayside_crc_upper)] }
def CrcLineSaid : Prop := crcLineRow.holds Tryd.pinned (OpenSpec.ofChange crcLineSpec)

/-- ITS FALSE NEIGHBOUR: 'it returns false'. Refute it at one input. -/
def crcLineWrong : ChangeSpec := { name := "crcLine", fn := fun _ => fun
  | [d1, d2, d3, d4] => { results := [.lit (.bool false)], args := [d1, d2, d3, d4] }
  | _ => none }
def CrcLineWrongFalsely : Prop := crcLineRow.holds Tryd.pinned (OpenSpec.ofChange crcLineWrong)

/-- 'quaysidelaw02.CrcBack': WHATEVER THE INPUT: true; the input reads as it did. -/
def crcBackSpec : ChangeSpec := { name := "crcBack", fn := fun _ => fun
  | [d1, d2, d3, d4] => { results := [.lit (.bool true)], args := [d1, d2, d3, d4] }
  | _ => none }
def crcBackRow : OpenClaim := { program := "ytinenekbdcbcnaadoor", sum := "48a81c63a5f8a8df8ff1d4981eebb586972e807da67c58badbed693367c68b90", func := "quayside/quaysidelaw02.CrcBack", spec := "crcBack", named := ["quayside/crc.lower", "quayside/crc.upper"], apart := false, laid := [("quayside/crc.lower", laid_quayside_crc_lower), ("quayside/crc.upper", laid_quayside_crc_upper)] }
def CrcBackSaid : Prop := crcBackRow.holds Tryd.pinned (OpenSpec.ofChange crcBackSpec)

/-- ITS FALSE NEIGHBOUR: 'it returns false'. Refute it at one input. -/
def crcBackWrong : ChangeSpec := { name := "crcBack", fn := fun _ => fun
  | [d1, d2, d3, d4] => { results := [.lit (.bool false)], args := [d1, d2, d3, d4] }
  | _ => none }
def CrcBackWrongFalsely : Prop := crcBackRow.holds Tryd.pinned (OpenSpec.ofChange crcBackWrong)

/-- 'quaysidelaw02.CrcBits': WHATEVER THE INPUT: true; the input reads as it did. -/
def crcBitsSpec : ChangeSpec := { name := "crcBits", fn := fun _ => fun
  | [d1, d2, d3] => { results := [.lit (.bool true)], args := [d1, d2, d3] }
  | _ => none }
def crcBitsRow : OpenClaim := { program := "ytinenekbdcbcnaadoor", sum := "48a81c63a5f8a8df8ff1d4981eebb586972e807da67c58badbed693367c68b90", func := "quayside/quaysidelaw02.CrcBits", spec := "crcBits", named := ["quayside/crc.lower", "quayside/crc.upper"], apart := false, laid := [("quayside/crc.lower", laid_quayside_crc_lower), ("quayside/crc.upper", laid_quayside_crc_upper)] }
def CrcBitsSaid : Prop := crcBitsRow.holds Tryd.pinned (OpenSpec.ofChange crcBitsSpec)

/-- ITS FALSE NEIGHBOUR: 'it returns false'. Refute it at one input. -/
def crcBitsWrong : ChangeSpec := { name := "crcBits", fn := fun _ => fun
  | [d1, d2, d3] => { results := [.lit (.bool false)], args := [d1, d2, d3] }
  | _ => none }
def CrcBitsWrongFalsely : Prop := crcBitsRow.holds Tryd.pinned (OpenSpec.ofChange crcBitsWrong)

/-- 'quaysidelaw02.CrcKnown': WHATEVER THE INPUT: true; the input reads as it did. -/
def crcKnownSpec : ChangeSpec := { name := "crcKnown", fn := fun _ => fun
  | [] => { results := [.lit (.bool true)], args := [] }
  | _ => none }
def crcKnownRow : OpenClaim := { program := "ytinenekbdcbcnaadoor", sum := "48a81c63a5f8a8df8ff1d4981eebb586972e807da67c58badbed693367c68b90", func := "quayside/quaysidelaw02.CrcKnown", spec := "crcKnown", named := ["quayside/crc.lower", "quayside/crc.upper"], apart := false, laid := [("quayside/crc.lower", laid_quayside_crc_lower), ("quayside/crc.upper", laid_quayside_crc_upper)] }
def CrcKnownSaid : Prop := crcKnownRow.holds Tryd.pinned (OpenSpec.ofChange crcKnownSpec)

/-- ITS FALSE NEIGHBOUR: 'it returns false'. Refute it at one input. -/
def crcKnownWrong : ChangeSpec := { name := "crcKnown", fn := fun _ => fun
  | [] => { results := [.lit (.bool false)], args := [] }
  | _ => none }
def CrcKnownWrongFalsely : Prop := crcKnownRow.holds Tryd.pinned (OpenSpec.ofChange crcKnownWrong)

/-- 'quaysidelaw03.FrameWhole': WHATEVER THE INPUT: true; the input reads as it did. -/
def frameWholeSpec : ChangeSpec := { name := "frameWhole", fn := fun _ => fun
  | [d1, d2] => { results := [.lit (.bool true)], args := [d1, d2] }
  | _ => none }
def frameWholeRow : OpenClaim := { program := "ytinenekbdcbcnaadoor", sum := "48a81c63a5f8a8df8ff1d4981eebb586972e807da67c58badbed693367c68b90", func := "quayside/quaysidelaw03.FrameWhole", spec := "frameWhole", named := ["quayside/crc.lower", "quayside/crc.upper"], apart := false, laid := [("quayside/crc.lower", laid_quayside_crc_lower), ("quayside/crc.upper", laid_quayside_crc_upper)] }
def FrameWholeSaid : Prop := frameWholeRow.holds Tryd.pinned (OpenSpec.ofChange frameWholeSpec)

/-- ITS FALSE NEIGHBOUR: 'it returns false'. Refute it at one input. -/
def frameWholeWrong : ChangeSpec := { name := "frameWhole", fn := fun _ => fun
  | [d1, d2] => { results := [.lit (.bool false)], args := [d1, d2] }
  | _ => none }
def FrameWholeWrongFalsely : Prop := frameWholeRow.holds Tryd.pinned (OpenSpec.ofChange frameWholeWrong)

/-- 'quaysidelaw03.FrameKnown': WHATEVER THE INPUT: true; the input reads as it did. -/
def frameKnownSpec : ChangeSpec := { name := "frameKnown", fn := fun _ => fun
  | [] => { results := [.lit (.bool true)], args := [] }
  | _ => none }
def frameKnownRow : OpenClaim := { program := "ytinenekbdcbcnaadoor", sum := "48a81c63a5f8a8df8ff1d4981eebb586972e807da67c58badbed693367c68b90", func := "quayside/quaysidelaw03.FrameKnown", spec := "frameKnown", named := ["quayside/crc.lower", "quayside/crc.upper"], apart := false, laid := [("quayside/crc.lower", laid_quayside_crc_lower), ("quayside/crc.upper", laid_quayside_crc_upper)] }
def FrameKnownSaid : Prop := frameKnownRow.holds Tryd.pinned (OpenSpec.ofChange frameKnownSpec)

/-- ITS FALSE NEIGHBOUR: 'it returns false'. Refute it at one input. -/
def frameKnownWrong : ChangeSpec := { name := "frameKnown", fn := fun _ => fun
  | [] => { results := [.lit (.bool false)], args := [] }
  | _ => none }
def FrameKnownWrongFalsely : Prop := frameKnownRow.holds Tryd.pinned (OpenSpec.ofChange frameKnownWrong)

/-- 'quaysidelaw03.FramePuts': WHATEVER THE INPUT: true; the input reads as it did. -/
def framePutsSpec : ChangeSpec := { name := "framePuts", fn := fun _ => fun
  | [d] => { results := [.lit (.bool true)], args := [d] }
  | _ => none }
def framePutsRow : OpenClaim := { program := "ytinenekbdcbcnaadoor", sum := "48a81c63a5f8a8df8ff1d4981eebb586972e807da67c58badbed693367c68b90", func := "quayside/quaysidelaw03.FramePuts", spec := "framePuts", named := ["quayside/crc.lower", "quayside/crc.upper"], apart := false, laid := [("quayside/crc.lower", laid_quayside_crc_lower), ("quayside/crc.upper", laid_quayside_crc_upper)] }
def FramePutsSaid : Prop := framePutsRow.holds Tryd.pinned (OpenSpec.ofChange framePutsSpec)

/-- ITS FALSE NEIGHBOUR: 'it returns false'. Refute it at one input. -/
def framePutsWrong : ChangeSpec := { name := "framePuts", fn := fun _ => fun
  | [d] => { results := [.lit (.bool false)], args := [d] }
  | _ => none }
def FramePutsWrongFalsely : Prop := framePutsRow.holds Tryd.pinned (OpenSpec.ofChange framePutsWrong)

/-- 'quaysidelaw03.FrameBack': WHATEVER THE INPUT: true; the input reads as it did. -/
def frameBackSpec : ChangeSpec := { name := "frameBack", fn := fun _ => fun
  | [d1, d2] => { results := [.lit (.bool true)], args := [d1, d2] }
  | _ => none }
def frameBackRow : OpenClaim := { program := "ytinenekbdcbcnaadoor", sum := "48a81c63a5f8a8df8ff1d4981eebb586972e807da67c58badbed693367c68b90", func := "quayside/quaysidelaw03.FrameBack", spec := "frameBack", named := ["quayside/crc.lower", "quayside/crc.upper"], apart := false, laid := [("quayside/crc.lower", laid_quayside_crc_lower), ("quayside/crc.upper", laid_quayside_crc_upper)] }
def FrameBackSaid : Prop := frameBackRow.holds Tryd.pinned (OpenSpec.ofChange frameBackSpec)

/-- ITS FALSE NEIGHBOUR: 'it returns false'. Refute it at one input. -/
def frameBackWrong : ChangeSpec := { name := "frameBack", fn := fun _ => fun
  | [d1, d2] => { results := [.lit (.bool false)], args := [d1, d2] }
  | _ => none }
def FrameBackWrongFalsely : Prop := frameBackRow.holds Tryd.pinned (OpenSpec.ofChange frameBackWrong)

/-- 'quaysidelaw03.FrameSums': WHATEVER THE INPUT: true; the input reads as it did. -/
def frameSumsSpec : ChangeSpec := { name := "frameSums", fn := fun _ => fun
  | [d1, d2, d3, d4] => { results := [.lit (.bool true)], args := [d1, d2, d3, d4] }
  | _ => none }
def frameSumsRow : OpenClaim := { program := "ytinenekbdcbcnaadoor", sum := "48a81c63a5f8a8df8ff1d4981eebb586972e807da67c58badbed693367c68b90", func := "quayside/quaysidelaw03.FrameSums", spec := "frameSums", named := ["quayside/crc.lower", "quayside/crc.upper"], apart := false, laid := [("quayside/crc.lower", laid_quayside_crc_lower), ("quayside/crc.upper", laid_quayside_crc_upper)] }
def FrameSumsSaid : Prop := frameSumsRow.holds Tryd.pinned (OpenSpec.ofChange frameSumsSpec)

/-- ITS FALSE NEIGHBOUR: 'it returns false'. Refute it at one input. -/
def frameSumsWrong : ChangeSpec := { name := "frameSums", fn := fun _ => fun
  | [d1, d2, d3, d4] => { results := [.lit (.bool false)], args := [d1, d2, d3, d4] }
  | _ => none }
def FrameSumsWrongFalsely : Prop := frameSumsRow.holds Tryd.pinned (OpenSpec.ofChange frameSumsWrong)

/-- 'quaysidelaw03.FrameHeads': WHATEVER THE INPUT: true; the input reads as it did. -/
def frameHeadsSpec : ChangeSpec := { name := "frameHeads", fn := fun _ => fun
  | [d1, d2, d3, d4, d5] => { results := [.lit (.bool true)], args := [d1, d2, d3, d4, d5] }
  | _ => none }
def frameHeadsRow : OpenClaim := { program := "ytinenekbdcbcnaadoor", sum := "48a81c63a5f8a8df8ff1d4981eebb586972e807da67c58badbed693367c68b90", func := "quayside/quaysidelaw03.FrameHeads", spec := "frameHeads", named := ["quayside/crc.lower", "quayside/crc.upper"], apart := false, laid := [("quayside/crc.lower", laid_quayside_crc_lower), ("quayside/crc.upper", laid_quayside_crc_upper)] }
def FrameHeadsSaid : Prop := frameHeadsRow.holds Tryd.pinned (OpenSpec.ofChange frameHeadsSpec)

/-- ITS FALSE NEIGHBOUR: 'it returns false'. Refute it at one input. -/
def frameHeadsWrong : ChangeSpec := { name := "frameHeads", fn := fun _ => fun
  | [d1, d2, d3, d4, d5] => { results := [.lit (.bool false)], args := [d1, d2, d3, d4, d5] }
  | _ => none }
def FrameHeadsWrongFalsely : Prop := frameHeadsRow.holds Tryd.pinned (OpenSpec.ofChange frameHeadsWrong)

/-- 'quaysidelaw03.FrameGets': WHATEVER THE INPUT: true; the input reads as it did. -/
def frameGetsSpec : ChangeSpec := { name := "frameGets", fn := fun _ => fun
  | [d] => { results := [.lit (.bool true)], args := [d] }
  | _ => none }
def frameGetsRow : OpenClaim := { program := "ytinenekbdcbcnaadoor", sum := "48a81c63a5f8a8df8ff1d4981eebb586972e807da67c58badbed693367c68b90", func := "quayside/quaysidelaw03.FrameGets", spec := "frameGets", named := ["quayside/crc.lower", "quayside/crc.upper"], apart := false, laid := [("quayside/crc.lower", laid_quayside_crc_lower), ("quayside/crc.upper", laid_quayside_crc_upper)] }
def FrameGetsSaid : Prop := frameGetsRow.holds Tryd.pinned (OpenSpec.ofChange frameGetsSpec)

/-- ITS FALSE NEIGHBOUR: 'it returns false'. Refute it at one input. -/
def frameGetsWrong : ChangeSpec := { name := "frameGets", fn := fun _ => fun
  | [d] => { results := [.lit (.bool false)], args := [d] }
  | _ => none }
def FrameGetsWrongFalsely : Prop := frameGetsRow.holds Tryd.pinned (OpenSpec.ofChange frameGetsWrong)

/- THE SECOND FORM. 'bulk': how many values and letters a reading holds, each counted each time it is reached (what is shared counts as often as it is met; a slice's spare places count too). A statement '..UptoSaid' is the law's where the arguments, and the package variables that the reading takes, are together of bulk at most 1048576: NARROWER than '..Said'. Prove '..Said' where nothing that the law and all that it calls make is longer than what came in: it says more and counts as full. Else prove '..UptoSaid'. A law counts once. -/
mutual
def uptoBulk {H : Type} : DataW H → Nat
  | .lit (.string bytes) => bytes.length + 1
  | .lit _ => 1
  | .nil => 1
  | .ptr d => uptoBulk d + 1
  | .slice elems spare => uptoBulkAll elems + uptoBulkAll spare + 1
  | .agg parts => uptoBulkAll parts + 1
  | .iface _ d => uptoBulk d + 1
  | .map entries => uptoBulkEntries entries + 1
  | .held _ => 1
def uptoBulkAll {H : Type} : List (DataW H) → Nat
  | [] => 0
  | d :: r => uptoBulk d + uptoBulkAll r
def uptoBulkEntries {H : Type} : List (Lit × DataW H) → Nat
  | [] => 0
  | x :: r => uptoBulkEntry x + uptoBulkEntries r
def uptoBulkEntry {H : Type} : Lit × DataW H → Nat
  | (.string bytes, d) => bytes.length + uptoBulk d + 1
  | (_, d) => uptoBulk d + 1
 end
def uptoSmall : (H : Type) → List (DataW H) → Bool := fun _ ds => decide (uptoBulkAll ds ≤ 1048576)
def OpenSpec.upto (s : _root_.Go.ChangeSpec) : _root_.Go.OpenSpec := { _root_.Go.OpenSpec.ofChange s with cond := some uptoSmall }

/-- 'quaysidelaw02.CrcTells', WHERE WHAT IT READS IS OF BULK AT MOST 1048576: true; the input reads as it did. -/
def crcTellsUptoRow : OpenClaim := { program := "ytinenekbdcbcnaadoor", sum := "48a81c63a5f8a8df8ff1d4981eebb586972e807da67c58badbed693367c68b90", func := "quayside/quaysidelaw02.CrcTells", spec := "crcTells", named := ["quayside/crc.lower", "quayside/crc.upper"], apart := false, laid := [("quayside/crc.lower", laid_quayside_crc_lower), ("quayside/crc.upper", laid_quayside_crc_upper)], narrowed := true }
def CrcTellsUptoSaid : Prop := crcTellsUptoRow.holds Tryd.pinned (OpenSpec.upto crcTellsSpec)

/-- 'quaysidelaw02.CrcCuts', WHERE WHAT IT READS IS OF BULK AT MOST 1048576: true; the input reads as it did. -/
def crcCutsUptoRow : OpenClaim := { program := "ytinenekbdcbcnaadoor", sum := "48a81c63a5f8a8df8ff1d4981eebb586972e807da67c58badbed693367c68b90", func := "quayside/quaysidelaw02.CrcCuts", spec := "crcCuts", named := ["quayside/crc.lower", "quayside/crc.upper"], apart := false, laid := [("quayside/crc.lower", laid_quayside_crc_lower), ("quayside/crc.upper", laid_quayside_crc_upper)], narrowed := true }
def CrcCutsUptoSaid : Prop := crcCutsUptoRow.holds Tryd.pinned (OpenSpec.upto crcCutsSpec)

/-- 'quaysidelaw02.CrcLine', WHERE WHAT IT READS IS OF BULK AT MOST 1048576: true; the input reads as it did. -/
def crcLineUptoRow : OpenClaim := { program := "ytinenekbdcbcnaadoor", sum := "48a81c63a5f8a8df8ff1d4981eebb586972e807da67c58badbed693367c68b90", func := "quayside/quaysidelaw02.CrcLine", spec := "crcLine", named := ["quayside/crc.lower", "quayside/crc.upper"], apart := false, laid := [("quayside/crc.lower", laid_quayside_crc_lower), ("quayside/crc.upper", laid_quayside_crc_upper)], narrowed := true }
def CrcLineUptoSaid : Prop := crcLineUptoRow.holds Tryd.pinned (OpenSpec.upto crcLineSpec)

/-- 'quaysidelaw02.CrcBack', WHERE WHAT IT READS IS OF BULK AT MOST 1048576: true; the input reads as it did. -/
def crcBackUptoRow : OpenClaim := { program := "ytinenekbdcbcnaadoor", sum := "48a81c63a5f8a8df8ff1d4981eebb586972e807da67c58badbed693367c68b90", func := "quayside/quaysidelaw02.CrcBack", spec := "crcBack", named := ["quayside/crc.lower", "quayside/crc.upper"], apart := false, laid := [("quayside/crc.lower", laid_quayside_crc_lower), ("quayside/crc.upper", laid_quayside_crc_upper)], narrowed := true }
def CrcBackUptoSaid : Prop := crcBackUptoRow.holds Tryd.pinned (OpenSpec.upto crcBackSpec)

/-- 'quaysidelaw02.CrcBits', WHERE WHAT IT READS IS OF BULK AT MOST 1048576: true; the input reads as it did. -/
def crcBitsUptoRow : OpenClaim := { program := "ytinenekbdcbcnaadoor", sum := "48a81c63a5f8a8df8ff1d4981eebb586972e807da67c58badbed693367c68b90", func := "quayside/quaysidelaw02.CrcBits", spec := "crcBits", named := ["quayside/crc.lower", "quayside/crc.upper"], apart := false, laid := [("quayside/crc.lower", laid_quayside_crc_lower), ("quayside/crc.upper", laid_quayside_crc_upper)], narrowed := true }
def CrcBitsUptoSaid : Prop := crcBitsUptoRow.holds Tryd.pinned (OpenSpec.upto crcBitsSpec)

/-- 'quaysidelaw02.CrcKnown', WHERE WHAT IT READS IS OF BULK AT MOST 1048576: true; the input reads as it did. -/
def crcKnownUptoRow : OpenClaim := { program := "ytinenekbdcbcnaadoor", sum := "48a81c63a5f8a8df8ff1d4981eebb586972e807da67c58badbed693367c68b90", func := "quayside/quaysidelaw02.CrcKnown", spec := "crcKnown", named := ["quayside/crc.lower", "quayside/crc.upper"], apart := false, laid := [("quayside/crc.lower", laid_quayside_crc_lower), ("quayside/crc.upper", laid_quayside_crc_upper)], narrowed := true }
def CrcKnownUptoSaid : Prop := crcKnownUptoRow.holds Tryd.pinned (OpenSpec.upto crcKnownSpec)

/-- 'quaysidelaw03.FrameWhole', WHERE WHAT IT READS IS OF BULK AT MOST 1048576: true; the input reads as it did. -/
def frameWholeUptoRow : OpenClaim := { program := "ytinenekbdcbcnaadoor", sum := "48a81c63a5f8a8df8ff1d4981eebb586972e807da67c58badbed693367c68b90", func := "quayside/quaysidelaw03.FrameWhole", spec := "frameWhole", named := ["quayside/crc.lower", "quayside/crc.upper"], apart := false, laid := [("quayside/crc.lower", laid_quayside_crc_lower), ("quayside/crc.upper", laid_quayside_crc_upper)], narrowed := true }
def FrameWholeUptoSaid : Prop := frameWholeUptoRow.holds Tryd.pinned (OpenSpec.upto frameWholeSpec)

/-- 'quaysidelaw03.FrameKnown', WHERE WHAT IT READS IS OF BULK AT MOST 1048576: true; the input reads as it did. -/
def frameKnownUptoRow : OpenClaim := { program := "ytinenekbdcbcnaadoor", sum := "48a81c63a5f8a8df8ff1d4981eebb586972e807da67c58badbed693367c68b90", func := "quayside/quaysidelaw03.FrameKnown", spec := "frameKnown", named := ["quayside/crc.lower", "quayside/crc.upper"], apart := false, laid := [("quayside/crc.lower", laid_quayside_crc_lower), ("quayside/crc.upper", laid_quayside_crc_upper)], narrowed := true }
def FrameKnownUptoSaid : Prop := frameKnownUptoRow.holds Tryd.pinned (OpenSpec.upto frameKnownSpec)

/-- 'quaysidelaw03.FramePuts', WHERE WHAT IT READS IS OF BULK AT MOST 1048576: true; the input reads as it did. -/
def framePutsUptoRow : OpenClaim := { program := "ytinenekbdcbcnaadoor", sum := "48a81c63a5f8a8df8ff1d4981eebb586972e807da67c58badbed693367c68b90", func := "quayside/quaysidelaw03.FramePuts", spec := "framePuts", named := ["quayside/crc.lower", "quayside/crc.upper"], apart := false, laid := [("quayside/crc.lower", laid_quayside_crc_lower), ("quayside/crc.upper", laid_quayside_crc_upper)], narrowed := true }
def FramePutsUptoSaid : Prop := framePutsUptoRow.holds Tryd.pinned (OpenSpec.upto framePutsSpec)

/-- 'quaysidelaw03.FrameBack', WHERE WHAT IT READS IS OF BULK AT MOST 1048576: true; the input reads as it did. -/
def frameBackUptoRow : OpenClaim := { program := "ytinenekbdcbcnaadoor", sum := "48a81c63a5f8a8df8ff1d4981eebb586972e807da67c58badbed693367c68b90", func := "quayside/quaysidelaw03.FrameBack", spec := "frameBack", named := ["quayside/crc.lower", "quayside/crc.upper"], apart := false, laid := [("quayside/crc.lower", laid_quayside_crc_lower), ("quayside/crc.upper", laid_quayside_crc_upper)], narrowed := true }
def FrameBackUptoSaid : Prop := frameBackUptoRow.holds Tryd.pinned (OpenSpec.upto frameBackSpec)

/-- 'quaysidelaw03.FrameSums', WHERE WHAT IT READS IS OF BULK AT MOST 1048576: true; the input reads as it did. -/
def frameSumsUptoRow : OpenClaim := { program := "ytinenekbdcbcnaadoor", sum := "48a81c63a5f8a8df8ff1d4981eebb586972e807da67c58badbed693367c68b90", func := "quayside/quaysidelaw03.FrameSums", spec := "frameSums", named := ["quayside/crc.lower", "quayside/crc.upper"], apart := false, laid := [("quayside/crc.lower", laid_quayside_crc_lower), ("quayside/crc.upper", laid_quayside_crc_upper)], narrowed := true }
def FrameSumsUptoSaid : Prop := frameSumsUptoRow.holds Tryd.pinned (OpenSpec.upto frameSumsSpec)

/-- 'quaysidelaw03.FrameHeads', WHERE WHAT IT READS IS OF BULK AT MOST 1048576: true; the input reads as it did. -/
def frameHeadsUptoRow : OpenClaim := { program := "ytinenekbdcbcnaadoor", sum := "48a81c63a5f8a8df8ff1d4981eebb586972e807da67c58badbed693367c68b90", func := "quayside/quaysidelaw03.FrameHeads", spec := "frameHeads", named := ["quayside/crc.lower", "quayside/crc.upper"], apart := false, laid := [("quayside/crc.lower", laid_quayside_crc_lower), ("quayside/crc.upper", laid_quayside_crc_upper)], narrowed := true }
def FrameHeadsUptoSaid : Prop := frameHeadsUptoRow.holds Tryd.pinned (OpenSpec.upto frameHeadsSpec)

/-- 'quaysidelaw03.FrameGets', WHERE WHAT IT READS IS OF BULK AT MOST 1048576: true; the input reads as it did. -/
def frameGetsUptoRow : OpenClaim := { program := "ytinenekbdcbcnaadoor", sum := "48a81c63a5f8a8df8ff1d4981eebb586972e807da67c58badbed693367c68b90", func := "quayside/quaysidelaw03.FrameGets", spec := "frameGets", named := ["quayside/crc.lower", "quayside/crc.upper"], apart := false, laid := [("quayside/crc.lower", laid_quayside_crc_lower), ("quayside/crc.upper", laid_quayside_crc_upper)], narrowed := true }
def FrameGetsUptoSaid : Prop := frameGetsUptoRow.holds Tryd.pinned (OpenSpec.upto frameGetsSpec)

end Rows
end Go.Proofs.YtinenekbdcbcnaaDoor

/-
  No cell of these rows narrows 'for every input' (looked for: loops, veiled, ifaces, maps, wideKeys, modest, calm, conditions, laid).
  DERIVED. THE GIVEN ROWS OF THIS SEAT. 4 by the template 'for every input the law returns true; each argument reads behind the call as it read before'; 0 by the template 'total and deterministic' (their statements: YtghodhkcjjjjnaaTotals.lean).
  GIVEN WITH THE SEED: the statements are not yours to turn. If you find one false, say at which input.
  Laid BY PROGRAM, IN A SANDBOX (cutbox-rows.mjs): the forced cells as the released guide's own fill.sh prints them over the translation 57f2c9596b9d6cb5… (all of the seat's roots in one cut). By AI agents, Wed Nov 11 2026. No macro, syntax, notation, axiom, sorry.
-/
import Derived.Test.YtghodhkcjjjjnaaChecked
import GoSem.Claim
import GoSem.ClaimJoined
import GoSem.ClaimMapViews
import Derived.JoinedTies
import Derived.KernelRfl
namespace Go.Proofs.Ytghodhkcjjjjnaa
/- THE CELL 'sum', in the pinned program and in every row, IS THE sha256 OF THE DUMP (.gsa) THAT YtghodhkcjjjjnaaProg.lean LOADS. Nothing in Lean hashes anything: it is a label: what it is worth is what the hold of that sum in a sandbox is worth. -/
noncomputable def Try.pinned : Pinned := { name := "ytghodhkcjjjjnaa", sum := "57f2c9596b9d6cb579acad49c413ad7c705f987cae57761f02580a95d90e3e5c", checked := Try.checked }
namespace Rows
def none {H : Type} : Left H := { results := [], args := [] }

/-- 'cashboxlaw04.FrameMixed': WHATEVER THE INPUT: true; the input reads as it did. -/
def frameMixedSpec : ChangeSpec := { name := "frameMixed", fn := fun _ => fun
  | [d1, d2, d3, d4, d5] => { results := [.lit (.bool true)], args := [d1, d2, d3, d4, d5] }
  | _ => none }
def frameMixedRow : OpenClaim := { program := "ytghodhkcjjjjnaa", sum := "57f2c9596b9d6cb579acad49c413ad7c705f987cae57761f02580a95d90e3e5c", func := "cashbox/cashboxlaw04.FrameMixed", spec := "frameMixed", unfollowed := true, recurses := true, apart := false }
def FrameMixedSaid : Prop := frameMixedRow.holds Try.pinned (OpenSpec.ofChange frameMixedSpec)

/-- ITS FALSE NEIGHBOUR: 'it returns false'. Refute it at one input. -/
def frameMixedWrong : ChangeSpec := { name := "frameMixed", fn := fun _ => fun
  | [d1, d2, d3, d4, d5] => { results := [.lit (.bool false)], args := [d1, d2, d3, d4, d5] }
  | _ => none }
def FrameMixedWrongFalsely : Prop := frameMixedRow.holds Try.pinned (OpenSpec.ofChange frameMixedWrong)

/-- 'cashboxlaw04.FrameLoads': WHATEVER THE INPUT: true; the input reads as it did. -/
def frameLoadsSpec : ChangeSpec := { name := "frameLoads", fn := fun _ => fun
  | [d1, d2, d3] => { results := [.lit (.bool true)], args := [d1, d2, d3] }
  | _ => none }
def frameLoadsRow : OpenClaim := { program := "ytghodhkcjjjjnaa", sum := "57f2c9596b9d6cb579acad49c413ad7c705f987cae57761f02580a95d90e3e5c", func := "cashbox/cashboxlaw04.FrameLoads", spec := "frameLoads", unfollowed := true, recurses := true, apart := false }
def FrameLoadsSaid : Prop := frameLoadsRow.holds Try.pinned (OpenSpec.ofChange frameLoadsSpec)

/-- ITS FALSE NEIGHBOUR: 'it returns false'. Refute it at one input. -/
def frameLoadsWrong : ChangeSpec := { name := "frameLoads", fn := fun _ => fun
  | [d1, d2, d3] => { results := [.lit (.bool false)], args := [d1, d2, d3] }
  | _ => none }
def FrameLoadsWrongFalsely : Prop := frameLoadsRow.holds Try.pinned (OpenSpec.ofChange frameLoadsWrong)

/-- 'cashboxlaw04.FrameBytes': WHATEVER THE INPUT: true; the input reads as it did. -/
def frameBytesSpec : ChangeSpec := { name := "frameBytes", fn := fun _ => fun
  | [d1, d2, d3] => { results := [.lit (.bool true)], args := [d1, d2, d3] }
  | _ => none }
def frameBytesRow : OpenClaim := { program := "ytghodhkcjjjjnaa", sum := "57f2c9596b9d6cb579acad49c413ad7c705f987cae57761f02580a95d90e3e5c", func := "cashbox/cashboxlaw04.FrameBytes", spec := "frameBytes", unfollowed := true, recurses := true, apart := false }
def FrameBytesSaid : Prop := frameBytesRow.holds Try.pinned (OpenSpec.ofChange frameBytesSpec)

/-- ITS FALSE NEIGHBOUR: 'it returns false'. Refute it at one input. -/
def frameBytesWrong : ChangeSpec := { name := "frameBytes", fn := fun _ => fun
  | [d1, d2, d3] => { results := [.lit (.bool false)], args := [d1, d2, d3] }
  | _ => none }
def FrameBytesWrongFalsely : Prop := frameBytesRow.holds Try.pinned (OpenSpec.ofChange frameBytesWrong)

/-- 'cashboxlaw04.FrameBack': WHATEVER THE INPUT: true; the input reads as it did. -/
def frameBackSpec : ChangeSpec := { name := "frameBack", fn := fun _ => fun
  | [d1, d2, d3, d4, d5, d6] => { results := [.lit (.bool true)], args := [d1, d2, d3, d4, d5, d6] }
  | _ => none }
def frameBackRow : OpenClaim := { program := "ytghodhkcjjjjnaa", sum := "57f2c9596b9d6cb579acad49c413ad7c705f987cae57761f02580a95d90e3e5c", func := "cashbox/cashboxlaw04.FrameBack", spec := "frameBack", unfollowed := true, recurses := true, apart := false }
def FrameBackSaid : Prop := frameBackRow.holds Try.pinned (OpenSpec.ofChange frameBackSpec)

/-- ITS FALSE NEIGHBOUR: 'it returns false'. Refute it at one input. -/
def frameBackWrong : ChangeSpec := { name := "frameBack", fn := fun _ => fun
  | [d1, d2, d3, d4, d5, d6] => { results := [.lit (.bool false)], args := [d1, d2, d3, d4, d5, d6] }
  | _ => none }
def FrameBackWrongFalsely : Prop := frameBackRow.holds Try.pinned (OpenSpec.ofChange frameBackWrong)

/- THE SECOND FORM. 'bulk': how many values and letters a reading holds, each counted each time it is reached (what is shared counts as often as it is met; a slice's spare places count too). A statement '..UptoSaid' is the law's where the arguments, and the package variables that the reading takes, are together of bulk at most 1048576: NARROWER than '..Said'. Prove '..Said' where nothing that the law and all that it calls make is longer than what came in: it says more and counts as full. Else prove '..UptoSaid'. A law counts once. -/
mutual
def uptoBulk {H : Type} : DataW H → Nat
  | .lit (.string bytes) => bytes.length + 1
  | .lit _ => 1
  | .nil => 1
  | .ptr d => uptoBulk d + 1
  | .slice elems spare => uptoBulkAll elems + uptoBulkAll spare + 1
  | .agg parts => uptoBulkAll parts + 1
  | .iface _ d => uptoBulk d + 1
  | .map entries => uptoBulkEntries entries + 1
  | .held _ => 1
def uptoBulkAll {H : Type} : List (DataW H) → Nat
  | [] => 0
  | d :: r => uptoBulk d + uptoBulkAll r
def uptoBulkEntries {H : Type} : List (Lit × DataW H) → Nat
  | [] => 0
  | x :: r => uptoBulkEntry x + uptoBulkEntries r
def uptoBulkEntry {H : Type} : Lit × DataW H → Nat
  | (.string bytes, d) => bytes.length + uptoBulk d + 1
  | (_, d) => uptoBulk d + 1
 end
def uptoSmall : (H : Type) → List (DataW H) → Bool := fun _ ds => decide (uptoBulkAll ds ≤ 1048576)
def OpenSpec.upto (s : _root_.Go.ChangeSpec) : _root_.Go.OpenSpec := { _root_.Go.OpenSpec.ofChange s with cond := some uptoSmall }

/-- 'cashboxlaw04.FrameMixed', WHERE WHAT IT READS IS OF BULK AT MOST 1048576: true; the input reads as it did. -/
def frameMixedUptoRow : OpenClaim := { program := "ytghodhkcjjjjnaa", sum := "57f2c9596b9d6cb579acad49c413ad7c705f987cae57761f02580a95d90e3e5c", func := "cashbox/cashboxlaw04.FrameMixed", spec := "frameMixed", unfollowed := true, recurses := true, apart := false, narrowed := true }
def FrameMixedUptoSaid : Prop := frameMixedUptoRow.holds Try.pinned (OpenSpec.upto frameMixedSpec)

/-- 'cashboxlaw04.FrameLoads', WHERE WHAT IT READS IS OF BULK AT MOST 1048576: true; the input reads as it did. -/
def frameLoadsUptoRow : OpenClaim := { program := "ytghodhkcjjjjnaa", sum := "57f2c9596b9d6cb579acad49c413ad7c705f987cae57761f02580a95d90e3e5c", func := "cashbox/cashboxlaw04.FrameLoads", spec := "frameLoads", unfollowed := true, recurses := true, apart := false, narrowed := true }
def FrameLoadsUptoSaid : Prop := frameLoadsUptoRow.holds Try.pinned (OpenSpec.upto frameLoadsSpec)

/-- 'cashboxlaw04.FrameBytes', WHERE WHAT IT READS IS OF BULK AT MOST 1048576: true; the input reads as it did. -/
def frameBytesUptoRow : OpenClaim := { program := "ytghodhkcjjjjnaa", sum := "57f2c9596b9d6cb579acad49c413ad7c705f987cae57761f02580a95d90e3e5c", func := "cashbox/cashboxlaw04.FrameBytes", spec := "frameBytes", unfollowed := true, recurses := true, apart := false, narrowed := true }
def FrameBytesUptoSaid : Prop := frameBytesUptoRow.holds Try.pinned (OpenSpec.upto frameBytesSpec)

/-- 'cashboxlaw04.FrameBack', WHERE WHAT IT READS IS OF BULK AT MOST 1048576: true; the input reads as it did. -/
def frameBackUptoRow : OpenClaim := { program := "ytghodhkcjjjjnaa", sum := "57f2c9596b9d6cb579acad49c413ad7c705f987cae57761f02580a95d90e3e5c", func := "cashbox/cashboxlaw04.FrameBack", spec := "frameBack", unfollowed := true, recurses := true, apart := false, narrowed := true }
def FrameBackUptoSaid : Prop := frameBackUptoRow.holds Try.pinned (OpenSpec.upto frameBackSpec)

end Rows
end Go.Proofs.Ytghodhkcjjjjnaa
